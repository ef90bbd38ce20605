import Derived.Test.YtaddlmlpeghonaaDoorUBw
set_option linter.unusedSimpArgs false
set_option linter.unusedVariables false
set_option linter.constructorNameAsVariable false
namespace Go.Proofs.YtaddlmlpeghonaaDoor
namespace AM
open Go.RowKit
section
variable {P : Program} {n k : Nat} {Q : Exit → Fr → Store → Prop} {F : Fr} {σ : Store}
theorem rdE (m : List Nat) {c : Code} (h : ∀ K : List (Nat × AV) → Store → Prop, (∀ L σ, Q .normal (fs L) σ → K L σ) → awp P n k c (thenQ (fun F σ => K (keepS F m) σ) Q) F σ) : awp P n k c Q F σ := by
 have h1 := h (fun L σ => Q .normal (fs L) σ) fun _ _ h => h
 intro E a hk hS hF
 refine wp_mono (h1 E a hk hS hF) fun e a w hp => ?_
 obtain ⟨E', F', σ', e1, e2, e3, e4, e5⟩ := hp
 cases e with
 | normal => exact ⟨E', fs (keepS F' m), σ', e1, e2, e3.fits (fits_keepS F' m), e4, e5⟩
 | _ => exact ⟨E', F', σ', e1, e2, e3, e4, e5⟩
theorem rgE {T : TT} (hT : TOK P T) (m : List Nat) {id : Nat} {l : List Oper}
 (h : ∀ K : List (Nat × AV) → Store → Prop, (∀ L σ, Q .normal (fs L) σ → K L σ) → Run (evOps T n l.toArray l F σ) fun l' F' σ' => l' = [] ∧ K (keepS F' m) σ') : awp P n k (.region id l.toArray false) Q F σ :=
 rdE m fun K hK => regEnd hT (h K hK)
theorem rcE (m : List Nat) {id : Nat} {l : List Oper}
 (h : ∀ K : List (Nat × AV) → Store → Prop, (∀ L σ, Q .normal (fs L) σ → K L σ) → opsWp P n k l.toArray l (thenQ (fun F σ => K (keepS F m) σ) Q) F σ) : awp P n k (.region id l.toArray false) Q F σ :=
 rdE m fun K hK => awp_region (h K hK)
theorem awp_virtS {c : Code} (t sz : Nat) {nl : Bool} {L : List (Nat × AV)} (ht : fs L t = .ds nl [] 0 true) (h : awp P n k c Q (fs ((t, .os true sz σ.length 0 0 0 false) :: L)) (σ ++ [.cells 0 []])) : awp P n k c Q (fs L) σ :=
 awp_virt t sz ht h
end
theorem awp_virtInS {P : Program} {n k : Nat} {Q : Exit → Fr → Store → Prop} {F : Fr} {σ : Store} {c : Code} (id i sz : Nat) {cs : List AV} (hcs : Store.at σ id 0 = some cs) (hi : i < cs.length) {nl : Bool} (hc : gc cs i = .ds nl [] 0 true)
 {L : List (Nat × AV)} {τ : Store} (ht : TellS k F ((σ.set id (.cells 0 (cs.set i (.os true sz σ.length 0 0 0 false)))) ++ [.cells 0 []]) L τ) (h : awp P n k c Q (fs L) τ) : awp P n k c Q F σ :=
 awp_virtIn hcs hi hc sz (awp_tellS ht h)
theorem ops_tellS {P : Program} {n k : Nat} {Q : Exit → Fr → Store → Prop} {F : Fr} {σ : Store} {ops : Array Oper} {l : List Oper} {L : List (Nat × AV)} {τ : Store} (ht : TellS k F σ L τ) (h : opsWp P n k ops l Q (fs L) τ) : opsWp P n k ops l Q F σ := by
 intro E a hk hS hF
 obtain ⟨E', h1, h2, h3, h4⟩ := ht.env hk hS hF
 rw [← h1]
 exact wpList_post h4 _ _ _ (h E' a h4.n h2 h3)
def AV.loose1 : AV → AV
 | .ds _ cs len _ => .ds true cs len false
 | a => a
def AV.loose : AV → AV
 | .agg cs => .agg (cs.map AV.loose1)
 | a => a.loose1
theorem VR.loose1 {E : Env} {a : AV} {v : Value} (h : VR E a v) : VR E a.loose1 v := by
 cases h with
 | dsn t => exact .dsn _
 | ds nl cells len t a cap vs ha hr hv hc ht hB => exact .ds _ _ _ _ a cap vs ha hr hv hc (fun e => by cases e) hB
 | u v => exact .u _
 | bool b => exact .bool _
 | int k n => exact .int _ _
 | str l s h => exact .str _ _ h
 | agg cs vs hl h => exact .agg _ _ hl h
 | tup cs vs hl h => exact .tup _ _ hl h
 | nilp => exact .nilp
 | op id ver off a hk h => exact .op _ _ _ _ hk h
 | dp cells off b o vs hr h => exact .dp _ _ _ _ _ hr h
 | osn sz id ver off t a hk h => exact .osn _ _ _ _ _ _ hk h
 | os nl sz id ver off len t a cap hk hc ht hB h => exact .os _ _ _ _ _ _ _ _ _ hk hc ht hB h
 | mp id b hk h => exact .mp _ _ hk h
 | nilm => exact .nilm
 | fn f first cap vf vc hf hc h1 h2 => exact .fn _ _ _ _ _ hf hc h1 h2
 | nilF => exact .nilF
 | ifc t a v h => exact .ifc _ _ _ h
 | nilI => exact .nilI
 | it id b hk h => exact .it _ _ hk h
 | gp g => exact .gp _
theorem VR.loose' {E : Env} {a : AV} {v : Value} (h : VR E a v) : VR E a.loose v := by
 cases a with
 | agg cs =>
  cases h with | agg _ vs hl hv =>
  refine .agg _ vs (by simp [hl]) fun i hi => ?_
  have hi' : i < cs.length := by simpa using hi
  rw [gc_map' hi']
  exact (hv i hi').loose1
 | _ => exact h.loose1
theorem ACalls.loose {P : Program} {f : FuncId} {args : List AV} {σ : Store} {R : AV → Store → Prop} (h : ACalls P f (args.map AV.loose) σ R) : ACalls P f args σ R :=
 ⟨h.1, fun E vs hS hl => h.2 E vs hS ⟨by rw [hl.1, List.length_map], fun i hi => by
  have hi' : i < args.length := by simpa using hi
  rw [gc_map' hi']
  exact (hl.2 i hi').loose'⟩⟩
mutual
def AV.deep : AV → Prop
 | .ds _ cs len _ => len ≤ 9223372036854775807 ∧ deepL cs
 | .agg cs => deepL cs
 | .os _ _ _ _ _ len _ => len ≤ 9223372036854775807
 | _ => True
def deepL : List AV → Prop
 | [] => True
 | a :: l => a.deep ∧ deepL l
end
theorem deepL_of : ∀ {cs : List AV}, (∀ i, i < cs.length → (gc cs i).deep) → deepL cs := by
 intro cs
 induction cs with
 | nil => intro _; trivial
 | cons a l ih => exact fun h => ⟨h 0 (by simp), ih fun i hi => by simpa [gc] using h (i + 1) (by simpa using hi)⟩
theorem VR.deep {E : Env} {a : AV} {v : Value} (h : VR E a v) : a.deep := by
 induction h with
 | ds _ _ _ _ _ _ _ _ _ _ _ _ hB ih => exact ⟨hB, deepL_of ih⟩
 | dsn => exact ⟨by omega, trivial⟩
 | agg cs vs hl _ ih => exact deepL_of ih
 | os _ _ _ _ _ _ _ _ _ _ _ _ hB => exact hB
 | osn => show 0 ≤ _; omega
 | _ => trivial
theorem deepL_append {a b : List AV} : deepL (a ++ b) → deepL a ∧ deepL b := by
 induction a with
 | nil => exact fun h => ⟨trivial, h⟩
 | cons x a ih => exact fun h => ⟨⟨h.1, (ih h.2).1⟩, (ih h.2).2⟩
theorem deepL_mem {α : Type} {enc : α → List AV} : ∀ {l : List α}, deepL (l.flatMap enc) → ∀ {y : α}, y ∈ l → deepL (enc y)
 | [], _, y, hm => by cases hm
 | x :: l, h, y, hm => by
  rw [List.flatMap_cons] at h
  obtain ⟨h1, h2⟩ := deepL_append h
  rcases List.mem_cons.1 hm with rfl | hm
  · exact h1
  · exact deepL_mem h2 hm
theorem deepL_idx {α : Type} {enc : α → List AV} {l : List α} (h : deepL (l.flatMap enc)) {i : Int} {y : α} (hx : idxL l i = some y) : deepL (enc y) := by
 obtain ⟨_, _, hi, he⟩ := idxL_some hx
 exact deepL_mem h (he ▸ List.getElem_mem hi)
theorem awp_deep {P : Program} {n k : Nat} {Q : Exit → Fr → Store → Prop} {F : Fr} {σ : Store} (t : Nat) {c : Code} (h : (F t).deep → awp P n k c Q F σ) : awp P n k c Q F σ := fun E a hk hS hF => h (hF.tmps t).deep E a hk hS hF
theorem awp_deepS {P : Program} {n k : Nat} {Q : Exit → Fr → Store → Prop} {F : Fr} {σ : Store} (id : Nat) {ver : Nat} {cs : List AV} (hi : σ[id]? = some (.cells ver cs)) {c : Code} (h : deepL cs → awp P n k c Q F σ) : awp P n k c Q F σ := fun E a hk hS hF => by
 refine h ?_ E a hk hS hF
 have ho := hS.obj id
 rw [hi] at ho
 rcases ho with ⟨b, _, hb⟩ | ⟨rfl, _⟩
 · refine deepL_of fun i hi => ?_
   obtain ⟨v, _, hv⟩ := hb.cell i hi
   exact hv.deep
 · trivial
def rounds : Nat := 1000000000000000000000
class CanonE {α : Type} (enc : α → List AV) : Prop where
 h : ∀ s x, canonL s (enc x) = true
theorem canon_all {α : Type} (enc : α → List AV) [hc : CanonE enc] (s : Bool) (l : List α) : canonL s (l.flatMap enc) = true := canonL_flatMap s enc (hc.h s) l
theorem zv {α : Type} {enc : α → List AV} [hc : CanonE enc] {σ : Store} {keep : List Nat} {ls : Bool} {f : Nat} (l : List α) : (l.flatMap enc).map (tell σ keep ls f) = l.flatMap enc := tell_canonL σ keep ls _ f (canon_all enc ls l)
def encBo (x : Bool) : List AV := [.bool x]
def encK (k : IntKind) (n : Int) : List AV := [.int k n]
def encSl {α : Type} (enc : α → List AV) (x : List α) : List AV := [.ds true (x.flatMap enc) x.length false]
instance (k : IntKind) : CanonE (encK k) := ⟨fun _ _ => rfl⟩
instance : CanonE encI := ⟨fun _ _ => rfl⟩
instance : CanonE encS := ⟨fun _ _ => rfl⟩
instance : CanonE encB := ⟨fun _ _ => rfl⟩
instance : CanonE encBo := ⟨fun _ _ => rfl⟩
instance {α : Type} (enc : α → List AV) [CanonE enc] : CanonE (encSl enc) := ⟨fun s x => by simp [encSl, canonL, AV.canon, canon_all]⟩
class LenE {α : Type} (enc : α → List AV) (sz : Nat) : Prop where
 h : ∀ x, (enc x).length = sz
instance (k : IntKind) : LenE (encK k) 1 := ⟨fun _ => rfl⟩
instance : LenE encI 1 := ⟨fun _ => rfl⟩
instance : LenE encS 1 := ⟨fun _ => rfl⟩
instance : LenE encB 1 := ⟨fun _ => rfl⟩
instance : LenE encBo 1 := ⟨fun _ => rfl⟩
instance {α : Type} (enc : α → List AV) : LenE (encSl enc) 1 := ⟨fun _ => rfl⟩
theorem osE1 {α : Type} {enc : α → List AV} {sz : Nat} [h : LenE enc sz] (l : List α) : (l.length * sz ≤ (l.flatMap enc).length) = True := eq_true (by rw [zo h.h]; exact Nat.le_refl _)
theorem osE2 {α : Type} {enc : α → List AV} {sz : Nat} [h : LenE enc sz] (l : List α) : (l.flatMap enc).take (l.length * sz) = l.flatMap enc := List.take_of_length_le (by rw [zo h.h]; exact Nat.le_refl _)
class OneE {α : Type} (enc : α → List AV) : Prop where
 h : ∀ x, (enc x).all AV.one = true
theorem ones_all {α : Type} (enc : α → List AV) [hc : OneE enc] (l : List α) : (l.flatMap enc).all AV.one = true := by
 induction l with
 | nil => rfl
 | cons x l ih => rw [List.flatMap_cons, List.all_append, hc.h, ih]; rfl
instance (k : IntKind) : OneE (encK k) := ⟨fun _ => rfl⟩
instance : OneE encI := ⟨fun _ => rfl⟩
instance : OneE encS := ⟨fun _ => rfl⟩
instance : OneE encB := ⟨fun _ => rfl⟩
instance : OneE encBo := ⟨fun _ => rfl⟩
instance {α : Type} (enc : α → List AV) : OneE (encSl enc) := ⟨fun _ => rfl⟩
def cutL {α : Type} (l : List α) (a b : Int) : List α := (l.drop a.toNat).take (b.toNat - a.toNat)
theorem cutL_len {α : Type} {l : List α} {a b : Int} (h : 0 ≤ a ∧ a ≤ b ∧ b ≤ (l.length : Int)) : (cutL l a b).length = b.toNat - a.toNat := by
 unfold cutL; rw [List.length_take, List.length_drop]; omega
section
variable {T : TT} {t e sz : Nat} {α : Type} {enc : α → List AV}
theorem cut_enc (h : ∀ x, (enc x).length = sz) (l : List α) (a b : Nat) : cutOf (l.flatMap enc) sz a b = ((l.drop a).take (b - a)).flatMap enc := by
 unfold cutOf; rw [enc_drop h, enc_take h]
theorem Enc.sl_lh (h : Enc T t e sz enc) {l : List α} {a b : Int} (hg : 0 ≤ a ∧ a ≤ b ∧ b ≤ (l.length : Int)) (q q' : IntKind) :
 evSlice T t (.ds true (l.flatMap enc) l.length false) (some (.int q a)) (some (.int q' b)) none = some (.ds true ((cutL l a b).flatMap enc) (cutL l a b).length false) := by
 obtain ⟨i, hi, hd⟩ := h.sl
 obtain ⟨j, hj, hs⟩ := h.el
 simp only [evSlice, hi, hd, hj, optI, hs]
 rw [if_pos hg, cutL_len hg, cut_enc h.len]
 simp [cutL]
theorem str_lo {i : TI} (hi : T t = some i) (hd : i.desc = .string) {l : List UInt8} {a : Int} (hg : 0 ≤ a ∧ a ≤ (l.length : Int) ∧ (l.length : Int) ≤ (l.length : Int)) (q : IntKind) :
 evSlice T t (.str l) (some (.int q a)) none none = some (.str (cutL l a l.length)) := by
 simp only [evSlice, hi, hd, optI]
 rw [if_pos hg]; rfl
theorem conv_b2s {src dst u : Nat} {i k j : TI} (hi : T src = some i) (hk : T dst = some k) (hd : i.desc = .slice u) (hks : k.desc = .string) (hj : T u = some j) (hjd : j.desc = .int .u8) (l : List UInt8) (nl tt : Bool) (σ : Store) :
 evConv T src dst (.ds nl (l.flatMap encB) l.length tt) σ = some (.str l, σ) := by
 have h1 := srcCells_enc (enc := encB) (sz := 1) (fun _ => rfl) l nl tt σ
 rw [← bys_flatMap] at h1 ⊢
 simp only [evConv, hi, hk, hd, hks, hj, hjd, h1, unbs_bys, Option.map_some]
theorem conv_int {src dst : Nat} {i k : TI} {q : IntKind} (hi : T src = some i) (hk : T dst = some k) (hd : k.desc = .int q) (p : IntKind) (n : Int) (σ : Store) : evConv T src dst (.int p n) σ = some (.int q (q.wrap n), σ) := by
 simp only [evConv, hi, hk, hd]
theorem conv_s2b {src dst u : Nat} {i k j : TI} (hi : T src = some i) (hk : T dst = some k) (hd : k.desc = .slice u) (hj : T u = some j) (hjd : j.desc = .int .u8) (hjs : j.size = 1) {l : List UInt8} (hl : l.length ≤ 9223372036854775807) (σ : Store) :
 evConv T src dst (.str l) σ = some (.os true 1 σ.length 0 0 l.length false, σ ++ [.cells 0 (l.flatMap encB)]) := by
 simp only [evConv, hi, hk, hd, hj, hjd]
 rw [if_pos ⟨hl, hjs⟩, bys_flatMap]
end
theorem u8_wrap (x : Int) : (((UInt8.ofNat (Int.toNat (IntKind.u8.wrap x))).toNat : Nat) : Int) = IntKind.u8.wrap x := by
 have h0 : 0 ≤ IntKind.u8.wrap x ∧ IntKind.u8.wrap x < 256 := by
  simp only [IntKind.wrap, IntKind.signed, IntKind.bits]
  simp
  omega
 rw [UInt8.toNat_ofNat']
 omega
end AM
end Go.Proofs.YtaddlmlpeghonaaDoor
