/- Parts of the proof, cut down to what it needs. -/
import Derived.Test.YtaddlmlpeghonaaDoorPBk
import Derived.Deep.Slices
import Derived.Deep.Fields
import Derived.ChangeArms
import Derived.ChangeSame
import Derived.Scope
set_option linter.constructorNameAsVariable false
set_option linter.unusedSimpArgs false
set_option linter.unusedVariables false
open List renaming length → lN, flatMap → fM, length_append → lP, length_cons → lC, length_nil → lZ, mem_cons_of_mem → mO, mem_cons_self → mS, append_assoc → aA, getD_eq_getElem?_getD → gG, append_nil → aN, map_nil → mN, map_cons → mC, nil_append → nA, flatMap_append → fA, flatMap_nil → fZ, flatMap_cons → fC, mem_append → mA, cons_append → cA, pairwise_cons → pC, length_map → lM, drop_zero → dZ, getElem?_append_right → gR, getElem?_append_left → gL, map_append → mP, length_eq_zero_iff → lI, mem_cons → mI
open Option renaming bind_some → bS, some.injEq → sI
open Nat renaming reduceLT → rL, reduceLeDiff → rD, reduceEqDiff → rE, reduceAdd → rA, reduceMul → rM, reduceSub → rS, zero_add → nZ, le_refl → nR, lt_succ_self → nS
section
namespace Go.Proofs.YtaddlmlpeghonaaDoor
namespace AM
open Go.RowKit
mutual
def AV.canon (s : Bool) : AV → Bool
 | .u => true
 | .bool _ | .int _ _ | .str _ | .nilp | .nilm | .nilF | .nilI | .gp _ => true
 | .agg cs => canonL s cs
 | .tup cs => canonL s cs
 | .dp cs _ => canonL s cs
 | .ds nl cs _ t => (!s || (nl && !t)) && canonL s cs
 | .fn _ a b => canonL s a && canonL s b
 | .ifc _ a => a.canon s
 | .op _ _ _ | .os _ _ _ _ _ _ _ | .mp _ | .it _ => false
def canonL (s : Bool) : List AV → Bool
 | [] => true
 | a :: l => a.canon s && canonL s l
end
mutual
def AV.flat : AV → Bool
 | .u => true
 | .bool _ | .int _ _ | .str _ | .nilp | .nilm | .nilF | .nilI | .gp _ => true
 | .agg cs => flatL cs
 | .tup cs => flatL cs
 | .ifc _ a => a.flat
 | _ => false
def flatL : List AV → Bool
 | [] => true
 | a :: l => a.flat && flatL l
end
theorem canonL_append (s : Bool) (l m : List AV) : canonL s (l ++ m) = (canonL s l && canonL s m) := by
 induction l with
 | nil => simp [canonL]
 | cons a l ih => simp [canonL, ih, Bool.and_assoc]
theorem canonL_flatMap {α : Type} (s : Bool) (f : α → List AV) (h : ∀ x, canonL s (f x) = true) (l : List α) : canonL s (l.flatMap f) = true := by
 induction l with
 | nil => rfl
 | cons x l ih => rw [fC, canonL_append, h, ih]; rfl
def zY1 : List Nat → Nat → Nat → Option Nat
 | [], _, _ => none
 | x :: l, id, j => if x = id then some j else zY1 l id (j + 1)
def tell (σ : Store) (keep : List Nat) (ls : Bool) : Nat → AV → AV
 | 0, a => bif a.canon ls then a else .u
 | f + 1, a =>
  match a with
  | .agg cs => .agg (cs.map (tell σ keep ls f))
  | .tup cs => .tup (cs.map (tell σ keep ls f))
  | .op id ver off => match zY1 keep id 0 with
   | some j => .op j ver off
   | none => match Store.at σ id ver with
    | some (c :: cs) => .dp ((c :: cs).map (tell σ keep ls f)) off
    | _ => .u
  | .os nl sz id ver off len t => match zY1 keep id 0 with
   | some j => .os nl sz j ver off len t
   | none => match Store.at σ id ver with
    | some cs => if off + len * sz ≤ cs.length then .ds true (((cs.drop off).take (len * sz)).map (tell σ keep ls f)) len false else .u
    | none => .u
  | .dp cs off => .dp (cs.map (tell σ keep ls f)) off
  | .ds nl cs len t => .ds (nl || ls) (cs.map (tell σ keep ls f)) len (t && !ls)
  | .fn g a b => .fn g (a.map (tell σ keep ls f)) (b.map (tell σ keep ls f))
  | .ifc t a => .ifc t (tell σ keep ls f a)
  | .mp id => match zY1 keep id 0 with
   | some j => .mp j
   | none => .u
  | .it id => match zY1 keep id 0 with
   | some j => .it j
   | none => .u
  | .u => .u
  | .bool b => .bool b
  | .int k n => .int k n
  | .str s => .str s
  | .nilp => .nilp
  | .nilm => .nilm
  | .nilF => .nilF
  | .nilI => .nilI
  | .gp g => .gp g
def zl3 (σ : Store) (keep : List Nat) (ls : Bool) (f : Nat) : AObj → AObj
 | .cells ver cs => .cells ver (cs.map (tell σ keep ls f))
 | .map es => .map (es.map fun e => (tell σ keep ls f e.1, tell σ keep ls f e.2))
 | .iter s p => .iter s p
 | .dead => .dead
def tellS (σ : Store) (keep : List Nat) (ls : Bool) (f : Nat) : Store := keep.map fun id => zl3 σ keep ls f (σ.getD id .dead)
mutual
theorem tell_canon (σ : Store) (keep : List Nat) (ls : Bool) : ∀ (a : AV) (f : Nat), a.canon ls = true → tell σ keep ls f a = a
 | a, 0, h => by simp [tell, h]
 | .u, f + 1, h => rfl
 | .bool _, f + 1, h => rfl
 | .int _ _, f + 1, h => rfl
 | .str _, f + 1, h => rfl
 | .nilp, f + 1, h => rfl
 | .nilm, f + 1, h => rfl
 | .nilF, f + 1, h => rfl
 | .nilI, f + 1, h => rfl
 | .gp _, f + 1, h => rfl
 | .agg cs, f + 1, h => by simp only [AV.canon] at h; simp only [tell, tell_canonL σ keep ls cs f h]
 | .tup cs, f + 1, h => by simp only [AV.canon] at h; simp only [tell, tell_canonL σ keep ls cs f h]
 | .dp cs _, f + 1, h => by simp only [AV.canon] at h; simp only [tell, tell_canonL σ keep ls cs f h]
 | .ds nl cs _ t, f + 1, h => by
  simp only [AV.canon, Bool.and_eq_true, Bool.or_eq_true, Bool.not_eq_true'] at h
  obtain ⟨h1, h2⟩ := h
  simp only [tell, tell_canonL σ keep ls cs f h2]
  rcases h1 with rfl | ⟨rfl, rfl⟩ <;> simp
 | .fn _ a b, f + 1, h => by
  simp only [AV.canon, Bool.and_eq_true] at h
  simp only [tell, tell_canonL σ keep ls a f h.1, tell_canonL σ keep ls b f h.2]
 | .ifc _ a, f + 1, h => by simp only [AV.canon] at h; simp only [tell, tell_canon σ keep ls a f h]
theorem tell_canonL (σ : Store) (keep : List Nat) (ls : Bool) : ∀ (l : List AV) (f : Nat), canonL ls l = true → l.map (tell σ keep ls f) = l
 | [], _, _ => rfl
 | a :: l, f, h => by
  simp only [canonL, Bool.and_eq_true] at h
  rw [mC, tell_canon σ keep ls a f h.1, tell_canonL σ keep ls l f h.2]
end
theorem zd2 : ∀ (l : List Nat) (id j i : Nat), zY1 l id j = some i → j ≤ i ∧ l[i - j]? = some id := by
 intro l
 induction l with
 | nil => intro id j i h; cases h
 | cons x l ih =>
  intro id j i h
  simp only [zY1] at h
  split at h
  · rename_i hx; cases h; subst hx; simp
  · obtain ⟨h1, h2⟩ := ih id (j + 1) i h
    refine ⟨by omega, ?_⟩
    rw [show i - j = (i - (j + 1)) + 1 by omega, List.getElem?_cons_succ]; exact h2
theorem zx4 : ∀ (l : List Nat) (id j : Nat), zY1 l id j = none → id ∉ l := by
 intro l
 induction l with
 | nil => intro id j _ h; cases h
 | cons x l ih =>
  intro id j h hm
  simp only [zY1] at h
  split at h
  · cases h
  · rename_i hx
    rcases mI.1 hm with h1 | h1
    · exact hx h1.symm
    · exact ih id (j + 1) h h1
theorem idxOf_get {l : List Nat} (hn : l.Nodup) {i id : Nat} (h : l[i]? = some id) : zY1 l id 0 = some i := by
 cases hq : zY1 l id 0 with
 | none => exact absurd (List.mem_of_getElem? h) (zx4 l id 0 hq)
 | some j =>
  obtain ⟨_, h2⟩ := zd2 l id 0 j hq
  rw [Nat.sub_zero] at h2
  have h3 : i < l.length := (List.getElem?_eq_some_iff.1 h).1
  congr 1
  exact ((List.getElem?_inj h3 hn).1 (h.trans h2.symm)).symm
def Env.ren (E : Env) (keep : List Nat) : Env where
 w := E.w
 st := fun b => E.st b ∨ ∃ id v, id ∉ keep ∧ E.loc id = some (v, some b)
 loc := fun j => (keep[j]?).bind E.loc
 n := keep.length
theorem Env.ren_loc {E : Env} {keep : List Nat} {j : Nat} {p : Nat × Option Nat} (h : (E.ren keep).loc j = some p) : ∃ id, keep[j]? = some id ∧ E.loc id = some p := by
 simp only [Env.ren] at h
 cases hk : keep[j]? with
 | none => rw [hk] at h; cases h
 | some id => rw [hk] at h; exact ⟨id, rfl, h⟩
theorem ExtK.ren {E : Env} {keep : List Nat} {k : Nat} (hst : ∀ b, E.st b → b < E.w.heap.size) (hk : keep.take k = List.range k) : ExtK k E (E.ren keep) where
 os := rfl
 tape := rfl
 output := rfl
 size := nR _
 shape := fun _ _ h => h
 st := fun b hb => ⟨.inl hb, rfl⟩
 n := by
  have := congrArg lN hk
  simp only [List.length_take, List.length_range] at this
  show k ≤ keep.length; omega
 loc := fun id hid ver ob h => by
  obtain ⟨i, h1, h2⟩ := Env.ren_loc h
  have : keep[id]? = some id := by
   have h3 : (keep.take k)[id]? = keep[id]? := by rw [List.getElem?_take]; simp [hid]
   rw [← h3, hk]; simp [hid]
  rw [h1] at this
  cases this
  exact ⟨ver, ob, h2, nR _, fun _ => rfl⟩
 old := fun _ _ _ => rfl
 own := fun id v b h _ => by obtain ⟨i, _, h2⟩ := Env.ren_loc h; exact ⟨i, v, h2⟩
 stn := fun b h => by
  rcases h with h | ⟨id, v, _, h⟩
  · exact .inl h
  · exact .inr (.inr ⟨id, v, h⟩)
theorem Row.ren {E : Env} {keep : List Nat} {b o m : Nat} {vs : Nat → Value} (h : Row E.w E.st b o m vs) : Row E.w (E.ren keep).st b o m vs := by
 rcases h with h | ⟨h1, h2⟩
 · exact .inl h
 · exact .inr ⟨.inl h1, h2⟩
theorem Env.ok.ren {E : Env} {keep : List Nat} {id ver j : Nat} (h : E.ok id ver) (hj : keep[j]? = some id) : (E.ren keep).ok j ver := by
 refine ⟨(List.getElem?_eq_some_iff.1 hj).1, fun v ob hl => ?_⟩
 obtain ⟨i, h1, h2⟩ := Env.ren_loc hl
 rw [hj] at h1; cases h1
 exact h.2 v ob h2
theorem gc_map' {f : AV → AV} {l : List AV} {i : Nat} (h : i < l.length) : gc (l.map f) i = f (gc l i) := by
 simp [gc, h]
mutual
theorem VR.canonRen {E E' : Env} {s : Bool} (hw : E'.w = E.w) (hst : ∀ b, E.st b → E'.st b) : ∀ (a : AV) {v : Value}, a.canon s = true → VR E a v → VR E' a v
 | .u, _, _, h => .u _
 | .bool _, _, _, h => by cases h; exact .bool _
 | .int _ _, _, _, h => by cases h; exact .int _ _
 | .str _, _, _, h => by cases h with | str _ s h => exact .str _ _ h
 | .nilp, _, _, h => by cases h; exact .nilp
 | .nilm, _, _, h => by cases h; exact .nilm
 | .nilF, _, _, h => by cases h; exact .nilF
 | .nilI, _, _, h => by cases h; exact .nilI
 | .gp _, _, _, h => by cases h; exact .gp _
 | .agg cs, _, hc, h => by
  cases h with | agg _ vs hl hv => exact .agg _ vs hl fun i hi => VR.canonRenL hw hst cs (by simpa [AV.canon] using hc) i hi (hv i hi)
 | .tup cs, _, hc, h => by
  cases h with | tup _ vs hl hv => exact .tup _ vs hl fun i hi => VR.canonRenL hw hst cs (by simpa [AV.canon] using hc) i hi (hv i hi)
 | .dp cs off, _, hc, h => by
  cases h with | dp _ _ b o vs hr hv =>
  refine .dp _ off b o vs ?_ fun i hi => VR.canonRenL hw hst cs (by simpa [AV.canon] using hc) i hi (hv i hi)
  rcases hr with hr | ⟨h1, h2⟩
  · exact .inl hr
  · exact .inr ⟨hst _ h1, by rw [hw]; exact h2⟩
 | .ds nl cs len t, _, hc, h => by
  have hc' : canonL s cs = true := by simp only [AV.canon, Bool.and_eq_true] at hc; exact hc.2
  cases h with
  | dsn => exact .dsn _
  | ds _ _ _ _ a cap vs ha hr hv hcap ht hB =>
   refine .ds _ _ _ _ a cap vs ha ?_ (fun i hi => VR.canonRenL hw hst cs hc' i hi (hv i hi)) hcap ht hB
   rcases hr with hr | ⟨h1, h2⟩
   · exact .inl hr
   · exact .inr ⟨hst _ h1, by rw [hw]; exact h2⟩
 | .fn f a b, _, hc, h => by
  simp only [AV.canon, Bool.and_eq_true] at hc
  cases h with | fn _ _ _ vf vc hf hcc h1 h2 =>
  exact .fn f a b vf vc hf hcc (fun i hi => VR.canonRenL hw hst a hc.1 i hi (h1 i hi)) (fun i hi => VR.canonRenL hw hst b hc.2 i hi (h2 i hi))
 | .ifc t a, _, hc, h => by
  cases h with | ifc _ _ v h => exact .ifc t a v (VR.canonRen hw hst a (by simpa [AV.canon] using hc) h)
theorem VR.canonRenL {E E' : Env} {s : Bool} (hw : E'.w = E.w) (hst : ∀ b, E.st b → E'.st b) : ∀ (cs : List AV) (hc : canonL s cs = true) (i : Nat) (hi : i < cs.length) {v : Value}, VR E (gc cs i) v → VR E' (gc cs i) v
 | [], _, _, hi, _, _ => absurd hi (by simp)
 | a :: cs, hc, 0, _, _, h => by
  simp only [canonL, Bool.and_eq_true] at hc
  exact VR.canonRen hw hst a hc.1 h
 | a :: cs, hc, i + 1, hi, _, h => by
  simp only [canonL, Bool.and_eq_true] at hc
  have e : gc (a :: cs) (i + 1) = gc cs i := by simp [gc]
  rw [e] at h ⊢
  exact VR.canonRenL hw hst cs hc.2 i (by simpa using hi) h
end
theorem VR.tell {E : Env} {σ : Store} (hS : SR E σ) {keep : List Nat} {ls : Bool} : ∀ (f : Nat) (a : AV) {v : Value}, VR E a v → VR (E.ren keep) (tell σ keep ls f a) v := by
 intro f
 induction f with
 | zero =>
  intro a v h
  simp only [AM.tell]
  cases hc : a.canon ls with
  | true => exact VR.canonRen (E := E) (E' := E.ren keep) rfl (fun b hb => Or.inl hb) a hc h
  | false => exact .u _
 | succ f ih =>
  have lst : ∀ (cs : List AV) (vs : Nat → Value), (∀ i, i < cs.length → VR E (gc cs i) (vs i)) → ∀ i, i < (cs.map (AM.tell σ keep ls f)).length → VR (E.ren keep) (gc (cs.map (AM.tell σ keep ls f)) i) (vs i) := by
   intro cs vs h i hi
   rw [lM] at hi
   rw [gc_map' hi]; exact ih _ (h i hi)
  intro a v h
  cases h with
  | u v => exact .u _
  | bool b => exact .bool _
  | int k n => exact .int _ _
  | str l s h => exact .str _ _ h
  | agg cs vs hl h => exact .agg _ vs (by simpa using hl) (lst cs _ h)
  | tup cs vs hl h => exact .tup _ vs (by simpa using hl) (lst cs _ h)
  | nilp => exact .nilp
  | op id ver off a hk h =>
   simp only [AM.tell]
   cases hi : zY1 keep id 0 with
   | some j =>
    obtain ⟨_, h2⟩ := zd2 _ _ _ _ hi
    rw [Nat.sub_zero] at h2
    refine .op _ _ _ _ (hk.ren h2) fun b hb => ?_
    obtain ⟨i, e1, e2⟩ := Env.ren_loc hb
    rw [h2] at e1; cases e1
    exact h b e2
   | none =>
    cases hcs : Store.at σ id ver with
    | none => exact .u _
    | some cs =>
     cases cs with
     | nil => exact .u _
     | cons c cs =>
      obtain ⟨b, hl, hb⟩ := hS.block_of hcs (show 0 < (c :: cs).length by simp)
      have := h b hl
      subst this
      obtain ⟨vs, hvs⟩ : ∃ vs : Nat → Value, ∀ i, i < (c :: cs).length → E.w.cell? ⟨b, i, none⟩ = some (vs i) ∧ VR E (gc (c :: cs) i) (vs i) := by
       have : ∀ i, ∃ v, i < (c :: cs).length → E.w.cell? ⟨b, i, none⟩ = some v ∧ VR E (gc (c :: cs) i) v := fun i => by
        by_cases hi : i < (c :: cs).length
        · obtain ⟨v, hv⟩ := hb.cell i hi; exact ⟨v, fun _ => hv⟩
        · exact ⟨undef, fun h => absurd h hi⟩
       exact Classical.skolem.1 this
      have := VR.dp (E := E.ren keep) ((c :: cs).map (AM.tell σ keep ls f)) off b 0 vs (.inr ⟨.inr ⟨id, ver, zx4 _ _ _ hi, hl⟩, fun i hi => by
       rw [lM] at hi
       rw [nZ]; exact (hvs i hi).1⟩) (lst _ _ fun i hi => (hvs i hi).2)
      simpa using this
  | dp cells off b o vs hr h => exact .dp _ off b o vs (by rw [lM]; exact hr.ren) (lst _ _ h)
  | dsn t =>
   simp only [AM.tell, Bool.true_or, mN]
   exact .dsn _
  | ds nl cells len t a cap vs ha hr h hc ht hB =>
   exact .ds _ _ _ _ a cap vs (by rcases ha with h | h; exact .inl (by rw [h]; rfl); exact .inr h) (by rw [lM]; exact hr.ren) (lst _ _ h) hc (fun e => ht (by simp only [Bool.and_eq_true] at e; exact e.1)) hB
  | osn sz id ver off t a hk h =>
   simp only [AM.tell]
   cases hi : zY1 keep id 0 with
   | some j =>
    obtain ⟨_, h2⟩ := zd2 _ _ _ _ hi
    rw [Nat.sub_zero] at h2
    refine .osn _ _ _ _ _ _ (hk.ren h2) fun ob hb => ?_
    obtain ⟨i, e1, e2⟩ := Env.ren_loc hb
    rw [h2] at e1; cases e1
    exact h ob e2
   | none =>
    cases hcs : Store.at σ id ver with
    | none => exact .u _
    | some cs =>
     simp only
     split
     · have e : ((cs.drop off).take (0 * sz)).map (AM.tell σ keep ls f) = [] := by simp
       rw [e]
       cases a with
       | none => exact .dsn _
       | some a => exact .ds _ _ _ _ a 0 (fun _ => undef) (.inl rfl) (.inl rfl) (fun i hi => absurd hi (by simp)) (nR _) (fun e => by cases e) (by omega)
     · exact .u _
  | os nl sz id ver off len t a cap hk hc ht hB h =>
   simp only [AM.tell]
   cases hi : zY1 keep id 0 with
   | some j =>
    obtain ⟨_, h2⟩ := zd2 _ _ _ _ hi
    rw [Nat.sub_zero] at h2
    refine .os _ _ _ _ _ _ _ a cap (hk.ren h2) hc ht hB fun ob hb => ?_
    obtain ⟨i, e1, e2⟩ := Env.ren_loc hb
    rw [h2] at e1; cases e1
    exact h ob e2
   | none =>
    cases hcs : Store.at σ id ver with
    | none => exact .u _
    | some cs =>
     simp only
     split
     · rename_i hle
       generalize hds : (cs.drop off).take (len * sz) = ds
       have hdl : ds.length = len * sz := by rw [← hds]; simp; omega
       by_cases h0 : ds = []
       · rw [h0]
         exact .ds _ _ _ _ a cap (fun _ => undef) (.inl rfl) (.inl rfl) (fun i hi => absurd hi (by simp)) hc (fun e => by cases e) hB
       · have hpos : 0 < ds.length := List.length_pos_iff.2 h0
         obtain ⟨b, hl, hb⟩ := hS.block_of hcs (show off < cs.length by omega)
         obtain ⟨b', e1, e2, _⟩ := h _ hl
         cases e1
         have hcap : cap ≠ 0 := by
          intro e; subst e
          have : len = 0 := by omega
          subst this; simp at hdl; exact h0 hdl
         have := e2.resolve_left hcap
         subst this
         have hg : ∀ i, i < ds.length → gc ds i = gc cs (off + i) := fun i hi => by
          rw [← hds]; exact zz2 _ _ _ _ (by omega) (by omega)
         obtain ⟨vs, hvs⟩ : ∃ vs : Nat → Value, ∀ i, i < ds.length → E.w.cell? ⟨b, off + i, none⟩ = some (vs i) ∧ VR E (gc ds i) (vs i) := by
          have : ∀ i, ∃ v, i < ds.length → E.w.cell? ⟨b, off + i, none⟩ = some v ∧ VR E (gc ds i) v := fun i => by
           by_cases hi : i < ds.length
           · obtain ⟨v, hv⟩ := hb.cell (off + i) (by omega); exact ⟨v, fun _ => by rw [hg i hi]; exact hv⟩
           · exact ⟨undef, fun h => absurd h hi⟩
          exact Classical.skolem.1 this
         exact .ds _ _ _ _ ⟨b, off, none⟩ cap vs (.inr rfl) (.inr ⟨.inr ⟨id, ver, zx4 _ _ _ hi, hl⟩, fun i hi => by
          rw [lM] at hi; exact (hvs i hi).1⟩) (lst _ _ fun i hi => (hvs i hi).2) hc (fun e => by cases e) hB
     · exact .u _
  | mp id b hk h =>
   simp only [AM.tell]
   cases hi : zY1 keep id 0 with
   | some j =>
    obtain ⟨_, h2⟩ := zd2 _ _ _ _ hi
    rw [Nat.sub_zero] at h2
    refine .mp _ b (hk.ren h2) fun ob hb => ?_
    obtain ⟨i, e1, e2⟩ := Env.ren_loc hb
    rw [h2] at e1; cases e1
    exact h ob e2
   | none => exact .u _
  | nilm => exact .nilm
  | fn g fs cp vf vc hf hc h1 h2 => exact .fn g _ _ vf vc (by simpa using hf) (by simpa using hc) (lst fs _ h1) (lst cp _ h2)
  | nilF => exact .nilF
  | ifc t a v h => exact .ifc t _ v (ih a h)
  | nilI => exact .nilI
  | it id b hk h =>
   simp only [AM.tell]
   cases hi : zY1 keep id 0 with
   | some j =>
    obtain ⟨_, h2⟩ := zd2 _ _ _ _ hi
    rw [Nat.sub_zero] at h2
    refine .it _ b (hk.ren h2) fun ob hb => ?_
    obtain ⟨i, e1, e2⟩ := Env.ren_loc hb
    rw [h2] at e1; cases e1
    exact h ob e2
   | none => exact .u _
  | gp g => exact .gp g
theorem SR.tell {E : Env} {σ : Store} (hS : SR E σ) {keep : List Nat} (hnd : keep.Nodup) (hlt : ∀ id ∈ keep, id < σ.length) (ls : Bool) (f : Nat) : SR (E.ren keep) (tellS σ keep ls f) := by
 have key : ∀ j v b, (E.ren keep).loc j = some (v, some b) → ∃ id, keep[j]? = some id ∧ E.loc id = some (v, some b) := fun j v b h => Env.ren_loc h
 refine ⟨by simp [tellS, Env.ren], fun j => ?_, fun j j' v v' b h h' => ?_, fun j v b h => ?_, fun b h => ?_, ?_⟩
 · simp only [tellS, List.getElem?_map]
   cases hj : keep[j]? with
   | none =>
    show (E.ren keep).loc j = none
    simp only [Env.ren, hj, Option.bind_none]
   | some id =>
    have hid := hlt id (List.mem_of_getElem? hj)
    have hloc : (E.ren keep).loc j = E.loc id := by simp only [Env.ren, hj, bS]
    have hobj := hS.obj id
    have hg : σ[id]? = some (σ.getD id .dead) := by
     rw [gG, List.getElem?_eq_getElem hid]; rfl
    rw [hg] at hobj
    simp only [Option.map_some]
    generalize σ.getD id .dead = o at hobj
    cases o with
    | cells ver cs =>
     rcases hobj with ⟨b, h1, h2⟩ | ⟨h1, h2⟩
     · refine .inl ⟨b, hloc.trans h1, ?_⟩
       obtain ⟨conc, t, fr, a1, a2, a3, a4⟩ := h2.blk
       refine ⟨conc, t, fr, a1, a2, by rw [lM]; exact a3, fun i hi => ?_⟩
       rw [lM] at hi
       rw [gc_map' hi]
       exact VR.tell hS f _ (a4 i hi)
     · exact .inr ⟨by rw [h1]; rfl, hloc.trans h2⟩
    | map es =>
     obtain ⟨b, ents, clock, h1, h2, h3, h4⟩ := hobj
     refine ⟨b, ents, clock, hloc.trans h1, h2, by rw [lM]; exact h3, fun i h h' => ?_⟩
     rw [lM] at h
     simp only [List.getElem_map]
     exact ⟨VR.tell hS f _ (h4 i h h').1, VR.tell hS f _ (h4 i h h').2⟩
    | iter s p =>
     obtain ⟨b, h1, h2⟩ := hobj
     exact ⟨b, hloc.trans h1, h2⟩
    | dead => exact hloc.trans hobj
 · obtain ⟨i, e1, e2⟩ := key _ _ _ h
   obtain ⟨i', e1', e2'⟩ := key _ _ _ h'
   have := hS.inj i i' v v' b e2 e2'
   subst this
   exact (List.getElem?_inj (List.getElem?_eq_some_iff.1 e1).1 hnd).1 (e1.trans e1'.symm)
 · obtain ⟨i, e1, e2⟩ := key _ _ _ h
   refine ⟨(hS.blk i v b e2).1, fun hs => ?_⟩
   rcases hs with hs | ⟨id, v', hm, hl⟩
   · exact (hS.blk i v b e2).2 hs
   · have := hS.inj id i v' v b hl e2
     subst this
     exact hm (List.mem_of_getElem? e1)
 · rcases h with h | ⟨id, v, _, hl⟩
   · exact hS.stb b h
   · exact (hS.blk id v b hl).1
 · exact hS.glb.mono fun b hb => ⟨.inl hb, rfl⟩
def TL (σ : Store) (keep : List Nat) (ls : Bool) (f : Nat) (F : Fr) : Nat → List AV → Prop
 | _, [] => True
 | i, a :: l => (a = .u ∨ tell σ keep ls f (F i) = a) ∧ TL σ keep ls f F (i + 1) l
theorem TL.get {σ : Store} {keep : List Nat} {ls : Bool} {f : Nat} {F : Fr} : ∀ {l : List AV} {i : Nat}, TL σ keep ls f F i l → ∀ j, j < l.length → l.getD j .u = .u ∨ tell σ keep ls f (F (i + j)) = l.getD j .u := by
 intro l
 induction l with
 | nil => intro i _ j hj; simp at hj
 | cons a l ih =>
  intro i h j hj
  cases j with
  | zero => simpa [TL] using h.1
  | succ j =>
   have := ih h.2 j (by simpa using hj)
   rw [show i + (j + 1) = i + 1 + j by omega]
   simpa using this
theorem FR.tell {E : Env} {n : Nat} {F : Fr} {a : Act} {σ : Store} (hS : SR E σ) (hF : FR E n F a) {keep : List Nat} {ls : Bool} {f : Nat} {L : List AV} (hL : TL σ keep ls f F 0 L) : FR (E.ren keep) n (fr L) a := by
 refine ⟨hF.size, hF.defers, fun t => ?_⟩
 unfold fr
 by_cases ht : t < L.length
 · rcases hL.get t ht with h | h
   · rw [h]; exact .u _
   · rw [nZ] at h
     rw [← h]; exact VR.tell hS f _ (hF.tmps t)
 · rw [gG, List.getElem?_eq_none (Nat.le_of_not_lt ht)]
   exact .u _
structure Tells (k : Nat) (F : Fr) (σ : Store) (L : List AV) (τ : Store) : Prop where
 wit : ∃ keep ls f, keep.Nodup ∧ (∀ id ∈ keep, id < σ.length) ∧ keep.take k = List.range k ∧ tellS σ keep ls f = τ ∧ TL σ keep ls f F 0 L
theorem Tells.env {k : Nat} {F : Fr} {σ : Store} {L : List AV} {τ : Store} (h : Tells k F σ L τ) {E : Env} {n : Nat} {a : Act} (hS : SR E σ) (hF : FR E n F a) :
 ∃ E', E'.w = E.w ∧ SR E' τ ∧ FR E' n (fr L) a ∧ ExtK k E E' := by
 obtain ⟨keep, ls, f, h1, h2, h3, h4, h5⟩ := h.wit
 exact ⟨E.ren keep, rfl, h4 ▸ hS.tell h1 h2 ls f, hF.tell hS h5, ExtK.ren hS.stb h3⟩
section
variable {P : Program} {n k : Nat} {Q : Exit → Fr → Store → Prop} {F : Fr} {σ : Store}
end
theorem ACalls.told {P : Program} {f : FuncId} {args : List AV} {σ : Store} {R : AV → Store → Prop}
 (h : ACalls P f args σ fun r σ' => ∃ keep ls g, keep.Nodup ∧ (∀ id ∈ keep, id < σ'.length) ∧ keep.take σ.length = List.range σ.length ∧ R (tell σ' keep ls g r) (tellS σ' keep ls g)) : ACalls P f args σ R :=
 ⟨h.1, fun E vs hS hl => (h.2 E vs hS hl).mono fun _ _ ⟨v, r, σ', E', h1, h2, h3, h4, h5, keep, ls, g, k1, k2, k3, k4⟩ => by
  have hk : E.n = σ.length := hS.len.symm
  have hx : ExtK E.n E' (E'.ren keep) := by rw [hk]; exact ExtK.ren h4.stb k3
  exact ⟨v, _, _, E'.ren keep, h1, h2, VR.tell (ls := ls) h4 g r h3, h4.tell k1 k2 ls g, ExtK.trans h5 hx, k4⟩⟩
end AM
end Go.Proofs.YtaddlmlpeghonaaDoor
end
section
namespace Go.Proofs.YtaddlmlpeghonaaDoor
namespace AM
open Go.RowKit
section
variable {P : Program} {n k : Nat} {Q : Exit → Fr → Store → Prop} {F : Fr} {σ : Store}
theorem zd (K : Fr → Store → Prop) (Q : Exit → Fr → Store → Prop) (F : Fr) (σ : Store) : zQ3 K Q .normal F σ = K F σ := rfl
theorem thenQ_ret (K : Fr → Store → Prop) (Q : Exit → Fr → Store → Prop) (F : Fr) (σ : Store) : zQ3 K Q .ret F σ = Q .ret F σ := rfl
theorem thenQ_exit (K : Fr → Store → Prop) (Q : Exit → Fr → Store → Prop) (i : Nat) (F : Fr) (σ : Store) : zQ3 K Q (.exit i) F σ = Q (.exit i) F σ := rfl
theorem thenQ_goto (K : Fr → Store → Prop) (Q : Exit → Fr → Store → Prop) (i : Nat) (F : Fr) (σ : Store) : zQ3 K Q (.goto i) F σ = Q (.goto i) F σ := rfl
theorem zn2 (i : Nat) (Q : Exit → Fr → Store → Prop) (F : Fr) (σ : Store) : zI5 i Q .normal F σ = Q .normal F σ := rfl
theorem blockQ_ret (i : Nat) (Q : Exit → Fr → Store → Prop) (F : Fr) (σ : Store) : zI5 i Q .ret F σ = Q .ret F σ := rfl
theorem blockQ_exit (i j : Nat) (Q : Exit → Fr → Store → Prop) (F : Fr) (σ : Store) : zI5 i Q (.exit j) F σ = if j = i then Q .normal F σ else Q (.exit j) F σ := rfl
theorem ze {x y : Code} (h : ∀ K : Fr → Store → Prop, (∀ F σ, awp P n k y Q F σ → K F σ) → awp P n k x (zQ3 K Q) F σ) : awp P n k (.seq x y) Q F σ := awp_seq (h _ fun _ _ h => h)
def Run (x : Option (List Oper × Fr × Store)) (K : List Oper → Fr → Store → Prop) : Prop :=
 match x with
 | some (l, F, σ) => K l F σ
 | none => False
theorem Run_some (l : List Oper) (F : Fr) (σ : Store) (K : List Oper → Fr → Store → Prop) : Run (some (l, F, σ)) K = K l F σ := rfl
theorem regEnd {T : TT} (hT : TOK P T) {id : Nat} {l : List Oper} (h : Run (zA5 T n l.toArray l F σ) fun l' F' σ' => l' = [] ∧ Q .normal F' σ') : awp P n k (.region id l.toArray false) Q F σ := by
 refine zG3 ?_
 unfold Run at h
 split at h
 · rename_i l' F' σ' he
   obtain ⟨rfl, h2⟩ := h
   exact opsWp_run hT he (zb h2)
 · exact h.elim
theorem zI {ops : Array Oper} {l : List Oper} {b : Bool} (t : Tmp) (hb : F t = .bool b) (h1 : b = true → zP1 P n k ops l Q (upd F t (.bool true)) σ) (h0 : b = false → zP1 P n k ops l Q (upd F t (.bool false)) σ) :
 zP1 P n k ops l Q F σ := by
 have e : F = upd F t (.bool b) := by
  funext x; unfold upd; split
  · rename_i h; rw [h, hb]
  · rfl
 rw [e]
 cases b with
 | true => exact h1 rfl
 | false => exact h0 rfl
end
theorem ACalls.ghost {P : Program} {f : FuncId} {args : List AV} {σ : Store} {R R' : AV → Store → Prop} (h : ACalls P f args σ R)
 (hg : ∀ r σ', R r σ' → ∀ E v, SR E σ' → VR E r v → ∃ E' r' σ'', E'.w = E.w ∧ SR E' σ'' ∧ Ext E E' ∧ VR E' r' v ∧ R' r' σ'') : ACalls P f args σ R' := by
 refine ⟨h.1, fun E vs hS hl => (h.2 E vs hS hl).mono ?_⟩
 rintro e w ⟨v, r, σ', E', h1, rfl, h3, h4, h5, h6⟩
 obtain ⟨E2, r', σ2, e1, e2, e3, e4, e5⟩ := hg r σ' h6 E' v h4 h3
 exact ⟨v, r', σ2, E2, h1, e1, e4, e2, h5.trans e3, e5⟩
theorem SR.virt {E : Env} {σ : Store} (hS : SR E σ) : SR (E.new E.w none) (σ ++ [.cells 0 []]) ∧ Ext E (E.new E.w none) :=
 hS.new (Grew.refl E.w) (fun b hb => by cases hb) (.inr ⟨rfl, by simp [Env.new]⟩)
theorem VR.virt {E : Env} {σ : Store} (hS : SR E σ) {nl : Bool} {v : Value} (h : VR E (.ds nl [] 0 true) v) (sz : Nat) (t' : Bool) : VR (E.new E.w none) (.os true sz σ.length 0 0 0 t') v := by
 have hv : ∃ a, v = .slice a 0 0 := by
  cases h with
  | dsn => exact ⟨none, rfl⟩
  | ds _ _ _ _ a cap vs ha hr hv hc ht hB => have := ht rfl; subst this; exact ⟨some a, rfl⟩
 obtain ⟨a, rfl⟩ := hv
 exact .osn _ _ _ _ _ _ (Env.ok_new hS _ _) fun ob hob => by rw [Env.loc_new hS] at hob; cases hob; rfl
theorem awp_virt {P : Program} {n k : Nat} {Q : Exit → Fr → Store → Prop} {F : Fr} {σ : Store} {c : Code} (t sz : Nat) {nl : Bool} (ht : F t = .ds nl [] 0 true) (h : awp P n k c Q (upd F t (.os true sz σ.length 0 0 0 false)) (σ ++ [.cells 0 []])) :
 awp P n k c Q F σ := by
 intro E a hk hS hF
 obtain ⟨hS', hx⟩ := hS.virt
 have hF' : FR (E.new E.w none) n (upd F t (.os true sz σ.length 0 0 0 false)) a := by
  refine ⟨hF.size, hF.defers, fun t' => ?_⟩
  by_cases e : t' = t
  · subst e
    simp only [upd, if_true]
    have := hF.tmps t'
    rw [ht] at this
    exact this.virt hS sz false
  · simp only [upd, e, if_false]; exact (hF.tmps t').ext hx
 exact wp_mono (h (E.new E.w none) a (Nat.le_trans hk hx.n) hS' hF') fun e a w hp => zG1 (hx.mono hk) hp
theorem SR.virtIn {E : Env} {σ : Store} (hS : SR E σ) {id ver : Nat} {cs : List AV} (hcs : Store.at σ id ver = some cs) {i : Nat} (hi : i < cs.length) {nl : Bool} (hc : gc cs i = .ds nl [] 0 true) (sz : Nat) :
 SR (E.new E.w none) ((σ.set id (.cells ver (cs.set i (.os true sz σ.length 0 0 0 false)))) ++ [.cells 0 []]) ∧ Ext E (E.new E.w none) := by
 obtain ⟨hS', hx⟩ := hS.virt
 have hlt := Store.at_lt hcs
 refine ⟨⟨by simpa using hS'.len, fun j => ?_, hS'.inj, hS'.blk, hS'.stb, hS'.glb⟩, hx⟩
 by_cases hj : j = id
 · subst hj
   rw [gL (by simpa using hlt), List.getElem?_set_self hlt]
   have h1 := hS'.obj j
   rw [gL hlt, Store.at_some hcs] at h1
   rcases h1 with ⟨b, e1, e2⟩ | ⟨e1, e2⟩
   · refine .inl ⟨b, e1, ?_⟩
     obtain ⟨conc, t', fr, a1, a2, a3, a4⟩ := e2.blk
     refine ⟨conc, t', fr, a1, a2, by simpa using a3, fun k hk => ?_⟩
     simp only [List.length_set] at hk
     rw [gc_set _ _ _ _ hi]
     by_cases hki : k = i
     · subst hki
       rw [if_pos rfl]
       have h2 := a4 k hk
       rw [hc] at h2
       exact (show VR (E.new E.w none) (.os true sz σ.length 0 0 0 false) _ from by
        generalize conc.getD k undef = v at h2
        have hv : ∃ a, v = .slice a 0 0 := by
         cases h2 with
         | dsn => exact ⟨none, rfl⟩
         | ds _ _ _ _ a cap vs ha hr hv hc ht hB => have := ht rfl; subst this; exact ⟨some a, rfl⟩
        obtain ⟨a, rfl⟩ := hv
        exact .osn _ _ _ _ _ _ (Env.ok_new hS _ _) fun ob hob => by rw [Env.loc_new hS] at hob; cases hob; rfl)
     · rw [if_neg hki]; exact a4 k hk
   · subst e1; simp at hi
 · have h1 := hS'.obj j
   by_cases hl : j < σ.length
   · rw [gL (by simpa using hl), List.getElem?_set_ne (fun e => hj e.symm)]
     rw [gL hl] at h1
     exact h1
   · rw [gR (by simpa using Nat.le_of_not_lt hl)]
     rw [gR (Nat.le_of_not_lt hl)] at h1
     simpa using h1
theorem awp_virtIn {P : Program} {n k : Nat} {Q : Exit → Fr → Store → Prop} {F : Fr} {σ : Store} {c : Code} {id ver : Nat} {cs : List AV} (hcs : Store.at σ id ver = some cs) {i : Nat} (hi : i < cs.length) {nl : Bool}
 (hc : gc cs i = .ds nl [] 0 true) (sz : Nat) (h : awp P n k c Q F ((σ.set id (.cells ver (cs.set i (.os true sz σ.length 0 0 0 false)))) ++ [.cells 0 []])) : awp P n k c Q F σ := by
 intro E a hk hS hF
 obtain ⟨hS', hx⟩ := hS.virtIn hcs hi hc sz
 exact wp_mono (h (E.new E.w none) a (Nat.le_trans hk hx.n) hS' (hF.ext hx)) fun e a w hp => zG1 (hx.mono hk) hp
end AM
end Go.Proofs.YtaddlmlpeghonaaDoor
end
section
namespace Go.Proofs.YtaddlmlpeghonaaDoor
namespace AM
open Go.RowKit
def zJ4 (e : Edge) : Bool :=
 match e.ground with
 | .textOnly _ | .gcOnly _ => false
 | _ => true
theorem zI4 {e : Edge} (h : zJ4 e = true) (md : Region.Mode) : Region.binds md e = true := by
 unfold zJ4 at h
 unfold Region.binds
 split at h <;> simp_all
def ancGo : List (List Nat) → List Oper → List (List Nat)
 | acc, [] => acc
 | acc, o :: l =>
  let d := (o.after.toList.filter zJ4).map (·.on)
  ancGo (acc ++ [d ++ d.flatMap fun i => acc.getD i []]) l
def anc (l : List Oper) : List (List Nat) := ancGo [] l
def zP2 : Nat → List Oper → Bool
 | _, [] => true
 | j, o :: l => o.after.all (fun e => !zJ4 e || decide (e.on < j)) && zP2 (j + 1) l
def lvls (md : Region.Mode) (ops : List Oper) : Nat → List Nat → List Nat
 | 0, ls => ls
 | n + 1, ls => lvls md ops n (ops.map fun o => (o.after.toList.filter (Region.binds md)).foldl (fun m e => max m (ls.getD e.on 0 + 1)) 0)
def topo (md : Region.Mode) (ops : List Oper) : Bool :=
 let L := lvls md ops ops.length (List.replicate ops.length 0)
 ops.zipIdx.all fun (o, j) => o.after.all fun e => !Region.binds md e || (decide (L.getD e.on 0 < L.getD j 0) && decide (e.on < ops.length))
theorem topo_spec {md : Region.Mode} {ops : List Oper} (h : topo md ops = true) : ∃ L : Nat → Nat, ∀ j o, ops[j]? = some o → ∀ e ∈ o.after, Region.binds md e = true → L e.on < L j ∧ e.on < ops.length := by
 refine ⟨fun j => (lvls md ops ops.length (List.replicate ops.length 0)).getD j 0, fun j o ho e he hb => ?_⟩
 unfold topo at h
 simp only at h
 have h1 := List.all_eq_true.1 h (o, j) (by
  rw [List.mem_iff_getElem?]
  exact ⟨j, by rw [List.getElem?_zipIdx, ho]; simp⟩)
 have h2 := Array.all_eq_true_iff_forall_mem.1 h1 e he
 simpa [hb] using h2
def Closed (ops : List Oper) (X : Nat → Prop) : Prop := ∀ j o, ops[j]? = some o → X j → ∀ e ∈ o.after, zJ4 e = true → X e.on
theorem anc_closed {ops : List Oper} : ∀ (l : List Oper) (acc : List (List Nat)), (∃ pre, ops = pre ++ l ∧ pre.length = acc.length) → (∀ j i, i ∈ acc.getD j [] → ∀ X, Closed ops X → X j → X i) →
 ∀ j i, i ∈ (ancGo acc l).getD j [] → ∀ X, Closed ops X → X j → X i := by
 intro l
 induction l with
 | nil => intro acc _ h; exact h
 | cons o l ih =>
  intro acc ⟨pre, hp, hl⟩ h
  simp only [ancGo]
  refine ih _ ⟨pre ++ [o], by simp [hp], by simp [hl]⟩ ?_
  intro j i hi X hX hj
  by_cases hlt : j < acc.length
  · rw [gG, gL hlt, ← gG] at hi
    exact h j i hi X hX hj
  · by_cases he : j = acc.length
    · subst he
      rw [gG, gR (nR _), Nat.sub_self, List.getElem?_cons_zero, Option.getD_some] at hi
      have hops : ops[acc.length]? = some o := by rw [hp, ← hl]; simp
      have direct : ∀ d, d ∈ (o.after.toList.filter zJ4).map (·.on) → X d := by
       intro d hd
       obtain ⟨e, he, rfl⟩ := List.mem_map.1 hd
       obtain ⟨h1, h2⟩ := List.mem_filter.1 he
       exact hX _ o hops hj e (by simpa using h1) h2
      rcases mA.1 hi with hi | hi
      · exact direct i hi
      · obtain ⟨d, hd, hi⟩ := List.mem_flatMap.1 hi
        exact h d i hi X hX (direct d hd)
    · rw [gG, List.getElem?_eq_none (by simp; omega)] at hi
      simp at hi
theorem anc_spec {ops : List Oper} {j i : Nat} (hi : i ∈ (anc ops).getD j []) {X : Nat → Prop} (hX : Closed ops X) (hj : X j) : X i :=
 anc_closed ops [] ⟨[], by simp, rfl⟩ (fun j i h => by simp at h) j i hi X hX hj
theorem zN3 : ∀ {l : List Oper} {k : Nat}, zP2 k l = true → ∀ j o, l[j]? = some o → ∀ e ∈ o.after, zJ4 e = true → e.on < k + j := by
 intro l
 induction l with
 | nil => intro k _ j o h; simp at h
 | cons x l ih =>
  intro k h j o hj e he ha
  simp only [zP2, Bool.and_eq_true] at h
  cases j with
  | zero =>
   simp at hj; subst hj
   have := Array.all_eq_true_iff_forall_mem.1 h.1 e he
   simpa [ha] using this
  | succ j =>
   have := ih h.2 j o (by simpa using hj) e he ha
   omega
theorem anc_lt {ops : List Oper} (hb : zP2 0 ops = true) {j i : Nat} (hj : j < ops.length) (hi : i ∈ (anc ops).getD j []) : i < j := by
 -- what stands in front of j is below j: the numbers up to j, without j, and j
 have h := anc_spec (X := fun x => x ≤ j) hi (fun k o hk hx e he ha => by
  have h1 := zN3 hb k o hk e he ha
  show e.on ≤ j
  have h2 : k ≤ j := hx
  omega) (nR j)
 -- j itself is not among them
 rcases Nat.lt_or_ge i j with h1 | h1
 · exact h1
 · exfalso
   have h2 : i ≤ j := h
   have hij : i = j := by omega
   subst hij
   have key : ∀ (l : List Oper) (acc : List (List Nat)), (∃ pre, ops = pre ++ l ∧ pre.length = acc.length) → (∀ j i, i ∈ acc.getD j [] → i < j) → ∀ j i, i ∈ (ancGo acc l).getD j [] → i < j := by
    intro l
    induction l with
    | nil => intro acc _ h; exact h
    | cons o l ih =>
     intro acc ⟨pre, hp, hl⟩ h
     simp only [ancGo]
     refine ih _ ⟨pre ++ [o], by simp [hp], by simp [hl]⟩ ?_
     intro j i hi
     by_cases hlt : j < acc.length
     · rw [gG, gL hlt, ← gG] at hi
       exact h j i hi
     · by_cases he : j = acc.length
       · subst he
         rw [gG, gR (nR _), Nat.sub_self, List.getElem?_cons_zero, Option.getD_some] at hi
         have hops : ops[acc.length]? = some o := by rw [hp, ← hl]; simp
         have direct : ∀ d, d ∈ (o.after.toList.filter zJ4).map (·.on) → d < acc.length := by
          intro d hd
          obtain ⟨e, he, rfl⟩ := List.mem_map.1 hd
          obtain ⟨h1, h2⟩ := List.mem_filter.1 he
          have := zN3 hb _ o hops e (by simpa using h1) h2
          omega
         rcases mA.1 hi with hi | hi
         · exact direct i hi
         · obtain ⟨d, hd, hi⟩ := List.mem_flatMap.1 hi
           have := h d i hi
           have := direct d hd
           omega
       · rw [gG, List.getElem?_eq_none (by simp; omega)] at hi
         simp at hi
   have := key ops [] ⟨[], by simp, rfl⟩ (fun j i h => by simp at h) i i hi
   omega
def tmpsOf (l : List Operand) : List Tmp := l.filterMap fun | .tmp t => some t | _ => none
def zj3 (ops : List Oper) (o : Oper) : List Tmp :=
 tmpsOf o.op.operands.toList ++ (match o.guard with
  | some (g, _) => ((ops[g]?).bind (·.dst)).toList
  | none => [])
theorem ev_congr {F G : Fr} {l : List Operand} (h : ∀ t ∈ tmpsOf l, F t = G t) : ∀ x ∈ l, ev F x = ev G x := by
 intro x hx
 cases x with
 | tmp t => exact h t (List.mem_filterMap.2 ⟨.tmp t, hx, rfl⟩)
 | _ => rfl
theorem zu5 {ρ ρ' : Operand → AV} (ps : Array (Nat × Operand)) (h : ∀ x ∈ (ps.toList.map (·.2)), ρ x = ρ' x) : (ps.toList.map fun p => (p.1, ρ p.2)) = ps.toList.map fun p => (p.1, ρ' p.2) :=
 List.map_congr_left fun p hp => by rw [h p.2 (List.mem_map.2 ⟨p, hp, rfl⟩)]
theorem evOp_congr {T : TT} {op : Op} {ρ ρ' : Operand → AV} {σ : Store} (h : ∀ x ∈ op.operands.toList, ρ x = ρ' x) : evOp T op ρ σ = evOp T op ρ' σ := by
 cases op <;> simp only [Op.operands] at h <;> simp only [evOp]
 case build t ps => rw [zu5 ps fun x hx => h x (by simpa using hx)]
 case buildSlice t n ps => rw [zu5 ps fun x hx => h x (by simpa using hx)]
 case makeFunc f a b =>
  rw [List.map_congr_left (l := a.toList) fun x hx => h x (by simp at hx ⊢; exact .inl hx), List.map_congr_left (l := b.toList) fun x hx => h x (by simp at hx ⊢; exact .inr hx)]
 case slice t x lo hi mx => cases lo <;> cases hi <;> cases mx <;> simp_all
 case makeMap t r => cases r <;> simp_all
 case call c =>
  obtain ⟨cal, args, ats⟩ := c
  cases cal <;> simp only []
  rw [List.map_congr_left (l := args.toList) fun x hx => h x (by simp only [Call.operands]; simpa using hx)]
 all_goals (first | rfl | (simp_all; done))
theorem callee_congr {F G : Fr} {o : Oper} (h : ∀ x ∈ o.op.operands.toList, ev F x = ev G x) : callee F o = callee G o := by
 obtain ⟨dst, op, ty, pos, after, guard⟩ := o
 cases op <;> simp only [callee]
 rename_i c
 obtain ⟨cal, args, ats⟩ := c
 cases cal <;> simp only []
 rename_i f
 simp only [Op.operands, Call.operands] at h
 rw [h f (by simp), List.map_congr_left (l := args.toList) fun x hx => h x (by simp at hx ⊢; exact .inr hx)]
theorem zw3 {F G : Fr} {ops : List Oper} {o : Oper} (h : ∀ t ∈ zj3 ops o, F t = G t) : zS1 ops.toArray F o = zS1 ops.toArray G o := by
 unfold zS1
 split
 · rfl
 · rename_i j want hg
   simp only [List.getElem?_toArray]
   cases ht : (ops[j]?).bind (·.dst) with
   | none => rfl
   | some t => simp only []; rw [h t (by simp [zj3, hg, ht])]
def only (l : List Tmp) (F : Fr) : Fr := fun t => if t ∈ l then F t else .u
theorem zP4 {l : List Tmp} {F : Fr} {t : Tmp} (h : t ∈ l) : only l F t = F t := by simp [only, h]
def SF (P : Program) (n : Nat) (ops : List Oper) (o : Oper) (F : Fr) (σ : Store) (r : AV) (σ' : Store) : Prop :=
 ∀ E a, SR E σ → FR E n (only (zj3 ops o) F) a → ∀ (K : Act → World → Prop) (Qc : Exit → Act → World → Prop), (∀ E' cv, SR E' σ' → VR E' r cv → Ext E E' → K (a.put o.dst cv) E'.w) →
  if Region.wanted o (yielded ops.toArray a.tmps) then o.wp P a E.w K Qc ∨ (o.asks P a E.w ∧ LetsOut Qc) else K (a.put o.dst undef) E.w
section
variable {P : Program} {n : Nat} {F : Fr} {σ σ' : Store}
theorem op_wp' {T : TT} (hT : TOK P T) {o : Oper} {r : AV} (h : evOp T o.op (ev F) σ = some (r, σ')) {E : Env} {a : Act} (hS : SR E σ) (hF : FR E n F a) {next : Act → World → Prop} {Qc : Exit → Act → World → Prop}
 (hn : ∀ E' cv, SR E' σ' → VR E' r cv → Ext E E' → next (a.put o.dst cv) E'.w) : o.wp P a E.w next Qc := by
 obtain ⟨E', h1, h2, h3⟩ := run_evOp hT hS (o := o) (fun x => hF.ev x) h
 unfold Oper.wp
 rcases h3 with ⟨cv, h4, h5⟩ | ⟨h4, h5⟩
 · rw [h4]; exact hn E' _ h1 h5 h2
 · subst h5
   rw [h4]; exact hn E' _ h1 (.u _) h2
theorem SF.op {T : TT} (hT : TOK P T) {ops : List Oper} {o : Oper} {r : AV} (hg : zS1 ops.toArray F o = some true) (h : evOp T o.op (ev F) σ = some (r, σ')) : SF P n ops o F σ r σ' := by
 intro E a hS hF K Qc hK
 have h1 : ∀ t ∈ zj3 ops o, only (zj3 ops o) F t = F t := fun t ht => zP4 ht
 rw [← zw3 h1] at hg
 rw [if_pos (zw1 hF hg)]
 rw [← evOp_congr (ρ := ev (only (zj3 ops o) F)) (ev_congr fun t ht => h1 t (List.mem_append_left _ ht))] at h
 exact .inl (op_wp' hT h hS hF hK)
theorem SF.skip {ops : List Oper} {o : Oper} (hg : zS1 ops.toArray F o = some false) : SF P n ops o F σ .u σ := by
 intro E a hS hF K Qc hK
 have h1 : ∀ t ∈ zj3 ops o, only (zj3 ops o) F t = F t := fun t ht => zP4 ht
 rw [← zw3 h1] at hg
 rw [if_neg (by rw [zw1 hF hg]; simp)]
 exact hK E _ hS (.u _) (Ext.refl E)
theorem SF.call {ops : List Oper} {o : Oper} {f : FuncId} {args : List AV} {r : AV} (hg : zS1 ops.toArray F o = some true) (hc : callee F o = some (f, args)) (h : ACalls P f args σ fun r' s => r' = r ∧ s = σ') : SF P n ops o F σ r σ' := by
 intro E a hS hF K Qc hK
 have h1 : ∀ t ∈ zj3 ops o, only (zj3 ops o) F t = F t := fun t ht => zP4 ht
 rw [← zw3 h1] at hg
 rw [if_pos (zw1 hF hg)]
 rw [← callee_congr (F := only (zj3 ops o) F) (ev_congr fun t ht => h1 t (List.mem_append_left _ ht))] at hc
 refine .inl ?_
 obtain ⟨dst, op, ty, pos, after, guard⟩ := o
 generalize only _ F = G at hF hc
 unfold callee at hc
 simp only at hc
 split at hc
 · rename_i fo ao ats
   split at hc
   · rename_i g first cap hfo
     cases hc
     have hv := hF.ev fo
     rw [hfo] at hv
     generalize hfv : a.eval fo = fv at hv
     cases hv with | fn _ _ _ vf vc h1 h2 h3 h4 =>
     have hargs := zy2 (zy2 (zR4 h1 h3) (zw5 (fun x => hF.ev x) ao)) (zR4 h2 h4)
     unfold Oper.wp
     have hrun : (execOp a.eval { dst := dst, op := .call { callee := .value fo, args := ao, argTypes := ats }, type := ty, pos := pos, after := after, guard := guard }).run P E.w = .ok (.enter f (vf ++ ao.map a.eval ++ vc)) E.w := by
      simp only [execOp, resolve, hfv, Deferred.ofValue, Sem.run_bind, Sem.run_pure, Result.andThen_ok, invoke]
      exact h.1 _ _
     rw [hrun]
     refine (h.2 E _ hS hargs).mono ?_
     rintro e w' ⟨v, r', s', E', rfl, rfl, h5, h6, h7, rfl, rfl⟩
     exact hK E' v h6 h5 h7
   · cases hc
 · cases hc
end
def cnt (eff : Nat → Bool) : Nat → Nat
 | 0 => 0
 | j + 1 => cnt eff j + (if eff j then 1 else 0)
theorem zX4 (eff : Nat → Bool) {i j : Nat} (h : i ≤ j) : cnt eff i ≤ cnt eff j := by
 induction j with
 | zero => have : i = 0 := by omega
           subst this; exact nR _
 | succ j ih =>
  by_cases e : i = j + 1
  · subst e; exact nR _
  · have := ih (by omega); simp only [cnt]; omega
theorem cnt_lt (eff : Nat → Bool) {i j : Nat} (h : i < j) (hi : eff i = true) : cnt eff i < cnt eff j := by
 have h1 := zX4 eff (show i + 1 ≤ j from h)
 simp only [cnt, hi, if_true] at h1
 omega
def hard (eff flt : Nat → Bool) (i : Nat) : Bool := eff i && !flt i
def zG5 (ops : List Oper) (A : List (List Nat)) (eff flt : Nat → Bool) (j : Nat) (o : Oper) (i : Nat) (p : Oper) : Bool :=
 (match p.dst with
  | some d => (if i = j then !((zj3 ops o).contains d) else (!((zj3 ops o).contains d) || ((A.getD j []).contains i && (!(flt i) || hard eff flt j || (A.getD j []).any fun q => decide (i < q) && hard eff flt q)) || (A.getD i []).contains j) && (o.dst != some d))
  | none => true) &&
 (!(eff i && hard eff flt j && decide (i < j)) || (A.getD j []).contains i)
def zS2 (ops : List Oper) (eff flt : Nat → Bool) : Bool :=
 zP2 0 ops && (topo .text ops && (topo .gc ops && topo .any ops)) && (let A := anc ops; ops.zipIdx.all fun (o, j) => (!(flt j) || eff j) && ops.zipIdx.all fun (p, i) => zG5 ops A eff flt j o i p)
def meets (ops : List Oper) (eff flt : Nat → Bool) (j k : Nat) : Bool :=
 let A := anc ops
 (List.range ops.length).all fun i => !eff i || ((flt i || !((A.getD j []).contains i) || decide (cnt eff i < k)) && (!((A.getD i []).contains j) || decide (k ≤ cnt eff i)))
theorem cnt_congr {p q : Nat → Bool} : ∀ {N : Nat}, (∀ i, i < N → p i = q i) → cnt p N = cnt q N := by
 intro N
 induction N with
 | zero => intro _; rfl
 | succ N ih => intro h; simp only [cnt]; rw [ih fun i hi => h i (by omega), h N (by omega)]
theorem cnt_add {p q : Nat → Bool} {j : Nat} : ∀ {N : Nat}, j < N → (∀ i, i ≠ j → q i = p i) → p j = false → q j = true → cnt q N = cnt p N + 1 := by
 intro N
 induction N with
 | zero => intro h; omega
 | succ N ih =>
  intro hj h hp hq
  simp only [cnt]
  by_cases e : j = N
  · subst e
    rw [cnt_congr (p := q) (q := p) fun i hi => h i (by omega), hp, hq]
    simp
  · rw [ih (by omega) h hp hq, h N (fun e' => e e'.symm)]
    omega
theorem cnt_le (p : Nat → Bool) : ∀ N, cnt p N ≤ N
 | 0 => nR _
 | N + 1 => by have := cnt_le p N; simp only [cnt]; split <;> omega
theorem cnt_all' {p : Nat → Bool} : ∀ {N : Nat}, cnt p N = N → ∀ i, i < N → p i = true := by
 intro N
 induction N with
 | zero => intro _ i hi; omega
 | succ N ih =>
  intro h i hi
  simp only [cnt] at h
  have := cnt_le p N
  by_cases e : i = N
  · subst e
    cases hp : p i with
    | true => rfl
    | false => rw [hp] at h; simp at h; omega
  · refine ih ?_ i (by omega)
    split at h <;> omega
theorem chk_pair {ops : List Oper} {eff flt : Nat → Bool} (h : zS2 ops eff flt = true) {i j : Nat} {o p : Oper} (hj : ops[j]? = some o) (hi : ops[i]? = some p) : zG5 ops (anc ops) eff flt j o i p = true := by
 simp only [zS2, Bool.and_eq_true] at h
 have h1 := List.all_eq_true.1 h.2 (o, j) (by rw [List.mem_zipIdx_iff_getElem?]; exact hj)
 simp only [Bool.and_eq_true] at h1
 have h2 := List.all_eq_true.1 h1.2 (p, i) (by rw [List.mem_zipIdx_iff_getElem?]; exact hi)
 exact h2
theorem chk_flt {ops : List Oper} {eff flt : Nat → Bool} (h : zS2 ops eff flt = true) {j : Nat} {o : Oper} (hj : ops[j]? = some o) (hf : flt j = true) : eff j = true := by
 simp only [zS2, Bool.and_eq_true] at h
 have h1 := List.all_eq_true.1 h.2 (o, j) (by rw [List.mem_zipIdx_iff_getElem?]; exact hj)
 simp only [Bool.and_eq_true, hf, Bool.not_true, Bool.false_or] at h1
 exact h1.1
theorem zz4 {ops : List Oper} {eff flt : Nat → Bool} (h : zS2 ops eff flt = true) {i j : Nat} {o p : Oper} {t : Tmp} (hj : ops[j]? = some o) (hi : ops[i]? = some p) (hne : i ≠ j) (hp : p.dst = some t) : o.dst ≠ some t := by
 have := chk_pair h hj hi
 simp only [zG5, hp, if_neg hne, Bool.and_eq_true, bne_iff_ne] at this
 exact this.1.2
theorem chk_hard {ops : List Oper} {eff flt : Nat → Bool} (h : zS2 ops eff flt = true) {i j : Nat} {o p : Oper} (hj : ops[j]? = some o) (hi : ops[i]? = some p) (he : eff i = true) (hh : hard eff flt j = true) (hlt : i < j) : i ∈ (anc ops).getD j [] := by
 have := chk_pair h hj hi
 simp only [zG5, Bool.and_eq_true, Bool.or_eq_true, Bool.not_eq_true', List.contains_eq_mem, decide_eq_true_eq] at this
 rcases this.2 with h2 | h2
 · simp [he, hh, hlt] at h2
 · exact h2
theorem chk_look {ops : List Oper} {eff flt : Nat → Bool} (h : zS2 ops eff flt = true) {i j : Nat} {o p : Oper} {t : Tmp} (hj : ops[j]? = some o) (hi : ops[i]? = some p) (hp : p.dst = some t) (ht : t ∈ zj3 ops o) :
 i ≠ j ∧ (j ∈ (anc ops).getD i [] ∨ (i ∈ (anc ops).getD j [] ∧ (flt i = false ∨ hard eff flt j = true ∨ ∃ q, q ∈ (anc ops).getD j [] ∧ i < q ∧ hard eff flt q = true))) := by
 have hc := chk_pair h hj hi
 simp only [zG5, hp, Bool.and_eq_true] at hc
 have hij : i ≠ j := by
  intro e
  subst e
  have := hc.1
  simp only [if_true, Bool.not_eq_true', List.contains_eq_mem, decide_eq_false_iff_not] at this
  exact this ht
 refine ⟨hij, ?_⟩
 have hc1 := hc.1
 rw [if_neg hij] at hc1
 simp only [Bool.and_eq_true, Bool.or_eq_true, Bool.not_eq_true', List.contains_eq_mem, decide_eq_false_iff_not, decide_eq_true_eq, List.any_eq_true] at hc1
 rcases hc1.1 with (h | ⟨h1, h2⟩) | h
 · exact absurd ht h
 · refine .inr ⟨h1, ?_⟩
   rcases h2 with (h2 | h2) | ⟨q, hq, h3, h4⟩
   · exact .inl h2
   · exact .inr (.inl h2)
   · exact .inr (.inr ⟨q, hq, h3, h4⟩)
 · exact .inl h
section
variable {P : Program} {n k0 : Nat} {Q : Exit → Fr → Store → Prop} {ops : List Oper} {eff flt : Nat → Bool} (F : Nat → Fr) (r : Nat → AV) (S : Nat → Store)
theorem zy5 (hF : ∀ j o, ops[j]? = some o → F (j + 1) = updO (F j) o.dst (r j)) (t : Tmp) : ∀ j, j ≤ ops.length → (∀ i o, i < j → ops[i]? = some o → o.dst ≠ some t) → F j t = F 0 t := by
 intro j
 induction j with
 | zero => intro _ _; rfl
 | succ j ih =>
  intro hj h
  obtain ⟨o, ho⟩ : ∃ o, ops[j]? = some o := ⟨_, List.getElem?_eq_getElem (by omega)⟩
  rw [hF j o ho]
  have hne := h j o (by omega) ho
  rw [← ih (by omega) fun i o hi => h i o (by omega)]
  cases hd : o.dst with
  | none => rfl
  | some d =>
   have : t ≠ d := fun e => hne (by rw [hd, e])
   simp [updO, upd, this]
theorem frame_new (hF : ∀ j o, ops[j]? = some o → F (j + 1) = updO (F j) o.dst (r j)) {t : Tmp} {i : Nat} {p : Oper} (hi : ops[i]? = some p) (hp : p.dst = some t) (huniq : ∀ k o, ops[k]? = some o → k ≠ i → o.dst ≠ some t) :
 ∀ j, j ≤ ops.length → i < j → F j t = r i := by
 intro j
 induction j with
 | zero => intro _ h; omega
 | succ j ih =>
  intro hj hij
  obtain ⟨o, ho⟩ : ∃ o, ops[j]? = some o := ⟨_, List.getElem?_eq_getElem (by omega)⟩
  rw [hF j o ho]
  by_cases e : i = j
  · subst e
    rw [hi] at ho; cases ho
    rw [hp]; simp [updO, upd]
  · have hne := huniq j o ho (fun h => e h.symm)
    rw [← ih (by omega) (by omega)]
    cases hd : o.dst with
    | none => rfl
    | some d =>
     have : t ≠ d := fun h => hne (by rw [hd, h])
     simp [updO, upd, this]
structure Mid (lo : Nat) (E : Env) (listed : Array Bool) (a : Act) (m : Nat) (fb : Nat → Nat) : Prop where
 size : listed.size = ops.length
 closed : Closed ops fun j => listed.getD j false = true
 mle : m ≤ ops.length
 done : ∀ i, i < m → eff i = true → listed.getD i false = true
 none : ∀ i, m ≤ i → hard eff flt i = true → listed.getD i false = false
 store : SR E (S (cnt eff m))
 tsize : a.tmps.size = n
 defers : a.defers = []
 new : ∀ t j o, ops[j]? = some o → listed.getD j false = true → ¬ (flt j = true ∧ m ≤ j) → o.dst = some t → VR E (r j) (a.tmps.getD t undef)
 fl : ∀ j o, ops[j]? = some o → listed.getD j false = true → flt j = true → m ≤ j → ∃ cs v, S (cnt eff j + 1) = S (cnt eff j) ++ [.cells 0 cs] ∧ r j = .op (S (cnt eff j)).length 0 0 ∧ Flt lo E cs v (fb j) ∧ ∀ t, o.dst = some t → a.tmps.getD t undef = v
 fne : ∀ i j, listed.getD i false = true → flt i = true → m ≤ i → listed.getD j false = true → flt j = true → m ≤ j → i ≠ j → fb i ≠ fb j
 old : ∀ t, (∀ j o, ops[j]? = some o → listed.getD j false = true → o.dst ≠ some t) → VR E (F 0 t) (a.tmps.getD t undef)
theorem zq1 {listed : Array Bool} {j i : Nat} (hj : j < listed.size) : (listed.setIfInBounds j true).getD i false = (listed.getD i false || decide (i = j)) := by
 by_cases e : i = j
 · subst e; simp [hj]
 · simp [Array.getElem?_setIfInBounds_ne (show j ≠ i from fun h => e h.symm), e]
theorem Mid.advance (hchk : zS2 ops eff flt = true) {E0 : Env} {listed : Array Bool} {a : Act} {fb : Nat → Nat} {m' : Nat} (hm' : m' ≤ ops.length) :
 ∀ (d m : Nat) (E : Env), m + d = m' → Mid (n := n) (ops := ops) (eff := eff) (flt := flt) F r S E0.w.heap.size E listed a m fb → ExtK k0 E0 E → (∀ i, m ≤ i → i < m' → eff i = true → listed.getD i false = true ∧ flt i = true) →
  ∃ E', E'.w = E.w ∧ Mid (n := n) (ops := ops) (eff := eff) (flt := flt) F r S E0.w.heap.size E' listed a m' fb ∧ ExtK k0 E0 E' := by
 intro d
 induction d with
 | zero => intro m E e hm hx _; have : m = m' := by omega
           subst this; exact ⟨E, rfl, hm, hx⟩
 | succ d ih =>
  intro m E e hm hx h
  obtain ⟨o, ho⟩ : ∃ o, ops[m]? = some o := ⟨_, List.getElem?_eq_getElem (by omega)⟩
  cases he : eff m with
  | false =>
   have hf : flt m = false := by
    cases hf : flt m with
    | false => rfl
    | true => rw [chk_flt hchk ho hf] at he; cases he
   refine ih (m + 1) E (by omega) { hm with mle := by omega, done := fun i hi hei => ?_, none := fun i hi => hm.none i (by omega), store := ?_, new := fun t j p hp hl hn => hm.new t j p hp hl fun hh => hn ⟨hh.1, ?_⟩, fl := fun j p hp hl hfl hj => hm.fl j p hp hl hfl (by omega), fne := fun i j h1 h2 h3 h4 h5 h6 => hm.fne i j h1 h2 (by omega) h4 h5 (by omega) } hx fun i hi hi' => h i (by omega) hi'
   · by_cases e : i = m
     · subst e; rw [he] at hei; cases hei
     · exact hm.done i (by omega) hei
   · have : cnt eff (m + 1) = cnt eff m := by simp [cnt, he]
     rw [this]; exact hm.store
   · have : j ≠ m := by rintro rfl; rw [hf] at hh; cases hh.1
     omega
  | true =>
   obtain ⟨hl, hf⟩ := h m (nR _) (by omega) he
   obtain ⟨cs, v, e1, e2, e3, e4⟩ := hm.fl m o ho hl hf (nR _)
   obtain ⟨hS, hv⟩ := hm.store.adopt e3
   have hcnt : cnt eff (m + 1) = cnt eff m + 1 := by simp [cnt, he]
   refine ih (m + 1) (E.new E.w (some (fb m))) (by omega) { hm with mle := by omega, done := fun i hi hei => ?_, none := fun i hi => hm.none i (by omega), store := by rw [hcnt, e1]; exact hS, new := fun t j p hp hlj hn hd => ?_, fl := fun j p hp hlj hfl hj => ?_, fne := fun i j h1 h2 h3 h4 h5 h6 => hm.fne i j h1 h2 (by omega) h4 h5 (by omega), old := fun t ht => (hm.old t ht).extV (ExtV.adopt E _) } (hx.adopt e3.lo) fun i hi hi' => h i (by omega) hi'
   · by_cases e : i = m
     · subst e; exact hl
     · exact hm.done i (by omega) hei
   · by_cases e : j = m
     · subst e
       rw [ho] at hp; cases hp
       rw [e2, e4 t hd]; exact hv
     · exact (hm.new t j p hp hlj (fun hh => hn ⟨hh.1, by omega⟩) hd).extV (ExtV.adopt E _)
   · obtain ⟨cs', v', f1, f2, f3, f4⟩ := hm.fl j p hp hlj hfl (by omega)
     exact ⟨cs', v', f1, f2, f3.adopt (hm.fne j m hlj hfl (by omega) hl hf (nR _) (by omega)), f4⟩
theorem wpAny_mid {T : TT} (hT : TOK P T) {md : Region.Mode} (hchk : zS2 ops eff flt = true) (hF : ∀ j o, ops[j]? = some o → F (j + 1) = updO (F j) o.dst (r j)) (hd : ∀ o ∈ ops, ∀ t, o.dst = some t → t < n)
 (heff : ∀ j o, ops[j]? = some o → hard eff flt j = true → SF P n ops o (F j) (S (cnt eff j)) (r j) (S (cnt eff j + 1)))
 (hflt : ∀ j o, ops[j]? = some o → flt j = true → o.guard = none ∧ ∃ e, o.op = .alloc e ∧ zZ2 T e (S (cnt eff j)) = some (r j, S (cnt eff j + 1)))
 (hpure : ∀ j o, ops[j]? = some o → eff j = false → ∀ k, k ≤ cnt eff ops.length → meets ops eff flt j k = true → SF P n ops o (F j) (S k) (r j) (S k))
 (hQ : Q .normal (F ops.length) (S (cnt eff ops.length))) (E0 : Env) :
 ∀ (fuel : Nat) (listed : Array Bool) (E : Env) (a : Act) (m : Nat) (fb : Nat → Nat), ExtK k0 E0 E → Mid (n := n) (ops := ops) (eff := eff) (flt := flt) F r S E0.w.heap.size E listed a m fb → ops.length ≤ cnt (fun i => listed.getD i false) ops.length + fuel →
  wpAny P md ops.toArray (post n k0 Q E0) fuel listed a E.w := by
 have hback : zP2 0 ops = true := by simp only [zS2, Bool.and_eq_true] at hchk; exact hchk.1.1
 have htopo : topo md ops = true := by
  simp only [zS2, Bool.and_eq_true] at hchk
  cases md with
  | text => exact hchk.1.2.1
  | gc => exact hchk.1.2.2.1
  | any => exact hchk.1.2.2.2
 -- the end
 have fin : ∀ listed E a m fb, ExtK k0 E0 E → Mid (n := n) (ops := ops) (eff := eff) (flt := flt) F r S E0.w.heap.size E listed a m fb → (∀ j, j < ops.length → listed.getD j false = true) → post n k0 Q E0 .normal a E.w := by
  intro listed E1 a m fb hx1 hm1 hall
  obtain ⟨E, hw, hm, hx⟩ := Mid.advance F r S hchk (nR _) (ops.length - m) m E1 (by have := hm1.mle; omega) hm1 hx1 fun i h1 h2 he => by
   refine ⟨hall i h2, ?_⟩
   cases hf : flt i with
   | true => rfl
   | false => have := hm1.none i h1 (by simp [hard, he, hf]); rw [hall i h2] at this; cases this
  rw [← hw]
  refine ⟨E, F ops.length, S (cnt eff ops.length), rfl, hm.store, ⟨hm.tsize, hm.defers, fun t => ?_⟩, hx, hQ⟩
  by_cases hw : ∃ (i : Nat) (p : Oper), ops[i]? = some p ∧ p.dst = some t
  · obtain ⟨i, p, hi, hp⟩ := hw
    have hilt : i < ops.length := (List.getElem?_eq_some_iff.1 hi).1
    rw [frame_new F r hF hi hp (fun k o hk hki => zz4 hchk hk hi (Ne.symm hki) hp) _ (nR _) hilt]
    exact hm.new t i p hi (hall i hilt) (fun hh => by omega) hp
  · have hno : ∀ (i : Nat) (o : Oper), ops[i]? = some o → o.dst ≠ some t := fun i o hi ho => hw ⟨i, o, hi, ho⟩
    rw [zy5 F r hF t _ (nR _) fun i o _ hi => hno i o hi]
    exact hm.old t fun j o hj _ => hno j o hj
 -- nothing is ready only when all is done
 have full : ∀ listed E a m fb, Mid (n := n) (ops := ops) (eff := eff) (flt := flt) F r S E0.w.heap.size E listed a m fb → Region.ready md ops.toArray listed = [] → ∀ j, j < ops.length → listed.getD j false = true := by
  intro listed E a m fb hm hr
  obtain ⟨L, hL⟩ := topo_spec htopo
  suffices h : ∀ q j, L j = q → j < ops.length → listed.getD j false = true from fun j => h _ j rfl
  intro q
  induction q using Nat.strongRecOn with
  | _ q ih =>
   intro j hq hj
   cases hc : listed.getD j false with
   | true => rfl
   | false =>
    exfalso
    obtain ⟨o, ho⟩ : ∃ o, ops[j]? = some o := ⟨_, List.getElem?_eq_getElem hj⟩
    have : j ∈ Region.ready md ops.toArray listed := mem_ready.2 ⟨by
     have : j < listed.size := by rw [hm.size]; exact hj
     simpa [this] using hc, o, by simpa using ho, fun e he hb => by
     obtain ⟨h1, h2⟩ := hL j o ho e he hb
     exact ih (L e.on) (by omega) e.on rfl h2⟩
    rw [hr] at this
    cases this
 intro fuel
 induction fuel with
 | zero =>
  intro listed E a m fb hx hm hcnt
  have hall := cnt_all' (p := fun i => listed.getD i false) (N := ops.length) (by have := cnt_le (fun i => listed.getD i false) ops.length; omega)
  refine ⟨?_, fin listed E a m fb hx hm hall⟩
  cases hr : Region.ready md ops.toArray listed with
  | nil => rfl
  | cons i l =>
   exfalso
   have : i ∈ Region.ready md ops.toArray listed := by rw [hr]; simp
   obtain ⟨h1, o, h2, _⟩ := mem_ready.1 this
   have hlt : i < ops.length := by simpa using (Array.getElem?_eq_some_iff.1 h2).1
   have := hall i hlt
   have hl : i < listed.size := by rw [hm.size]; exact hlt
   simp [hl] at h1 this
   rw [h1] at this; cases this
 | succ fuel ih =>
  intro listed E1 a m1 fb hx1 hm1 hcnt
  refine ⟨fun hr => fin listed E1 a m1 fb hx1 hm1 (full listed E1 a m1 fb hm1 hr), fun j hj => ?_⟩
  obtain ⟨hnl, o, ho', hafter⟩ := mem_ready.1 hj
  have ho : ops[j]? = some o := by simpa using ho'
  have hjlt : j < ops.length := (List.getElem?_eq_some_iff.1 ho).1
  have hjl : j < listed.size := by rw [hm1.size]; exact hjlt
  have hjf : listed.getD j false = false := by simpa [hjl] using hnl
  -- the listed ones and j
  have hclosed' : Closed ops fun i => listed.getD i false = true ∨ i = j := by
   intro k p hk hx e he ha
   rcases hx with hx | hx
   · exact .inl (hm1.closed k p hk hx e he ha)
   · subst hx
     rw [ho] at hk; cases hk
     exact .inl (hafter e he (zI4 ha md))
  have before : ∀ i, i ∈ (anc ops).getD j [] → listed.getD i false = true := by
   intro i hi
   rcases anc_spec hi hclosed' (.inr rfl) with h | h
   · exact h
   · exact absurd (anc_lt hback hjlt hi) (by omega)
  have behind : ∀ i, i < ops.length → j ∈ (anc ops).getD i [] → listed.getD i false = false := by
   intro i hil hi
   cases hc : listed.getD i false with
   | false => rfl
   | true =>
    have := anc_spec hi hm1.closed hc
    rw [hjf] at this; cases this
  have hclosed2 : Closed ops fun i => (listed.setIfInBounds j true).getD i false = true := by
   intro k p hk hl e he ha
   simp only [zq1 hjl, Bool.or_eq_true, decide_eq_true_eq] at hl ⊢
   refine .inl ?_
   rcases hl with hl | hl
   · exact hm1.closed k p hk hl e he ha
   · subst hl
     rw [ho] at hk; cases hk
     exact hafter e he (zI4 ha md)
  have hcnt2 : ops.length ≤ cnt (fun i => (listed.setIfInBounds j true).getD i false) ops.length + fuel := by
   have := cnt_add (p := fun i => listed.getD i false) (q := fun i => (listed.setIfInBounds j true).getD i false) hjlt (fun i hi => by simp [zq1 hjl, hi]) hjf (by simp [zq1 hjl])
   omega
  -- effects at m and behind it that are listed are cells
  have soft : ∀ i, m1 ≤ i → eff i = true → listed.getD i false = true → flt i = true := by
   intro i h1 he hl
   cases hf : flt i with
   | true => rfl
   | false => have := hm1.none i h1 (by simp [hard, he, hf]); rw [hl] at this; cases this
  -- a hard effect that is listed is ahead of m
  have hardlt : ∀ i, hard eff flt i = true → listed.getD i false = true → i < m1 := by
   intro i h1 hl
   rcases Nat.lt_or_ge i m1 with h | h
   · exact h
   · rw [hm1.none i h h1] at hl; cases hl
  have mlej : eff j = true → m1 ≤ j := by
   intro he
   rcases Nat.lt_or_ge j m1 with h | h
   · rw [hm1.done j h he] at hjf; cases hjf
   · exact h
  -- the frame that it zj3 at
  have look : ∀ E m, Mid (n := n) (ops := ops) (eff := eff) (flt := flt) F r S E0.w.heap.size E listed a m fb → m1 ≤ m → (hard eff flt j = true → m = j) → FR E n (only (zj3 ops o) (F j)) a := by
   intro E m hm hmm hmj
   refine ⟨hm.tsize, hm.defers, fun t => ?_⟩
   by_cases ht : t ∈ zj3 ops o
   · rw [zP4 ht]
     by_cases hw : ∃ (i : Nat) (p : Oper), ops[i]? = some p ∧ p.dst = some t
     · obtain ⟨i, p, hi, hp⟩ := hw
       have hilt : i < ops.length := (List.getElem?_eq_some_iff.1 hi).1
       have huniq : ∀ (k : Nat) (q : Oper), ops[k]? = some q → k ≠ i → q.dst ≠ some t := fun k q hk hki => zz4 hchk hk hi (Ne.symm hki) hp
       obtain ⟨hij, h | ⟨h, h'⟩⟩ := chk_look hchk ho hi hp ht
       · have hlt := anc_lt hback hilt h
         rw [zy5 F r hF t j (by omega) fun k q hk hq hqt => by
          by_cases e : k = i
          · omega
          · exact huniq k q hq e hqt]
         refine hm.old t fun k q hq hl hqt => ?_
         by_cases e : k = i
         · subst e
           rw [behind k hilt h] at hl; cases hl
         · exact huniq k q hq e hqt
       · have hlt := anc_lt hback hjlt h
         rw [frame_new F r hF hi hp huniq j (by omega) hlt]
         refine hm.new t i p hi (before i h) (fun hh => ?_) hp
         rcases h' with h' | h' | ⟨q, h1, h2, h3⟩
         · rw [h'] at hh; cases hh.1
         · have := hmj h'; omega
         · have := hardlt q h3 (before q h1); omega
     · have hno : ∀ (i : Nat) (q : Oper), ops[i]? = some q → q.dst ≠ some t := fun i q hi hq => hw ⟨i, q, hi, hq⟩
       rw [zy5 F r hF t j (by omega) fun i q _ hi => hno i q hi]
       exact hm.old t fun k q hk _ => hno k q hk
   · simp only [only, ht, if_false]; exact .u _
  -- one step of an operation that has its fact
  have step : ∀ (E : Env) (m m' : Nat) (s' : Store), ExtK k0 E0 E → Mid (n := n) (ops := ops) (eff := eff) (flt := flt) F r S E0.w.heap.size E listed a m fb → FR E n (only (zj3 ops o) (F j)) a → flt j = false → SF P n ops o (F j) (S (cnt eff m)) (r j) s' → s' = S (cnt eff m') → m ≤ m' → m' ≤ ops.length →
   (∀ i, i < m' → eff i = true → i < m ∨ i = j) → (∀ i, m' ≤ i → hard eff flt i = true → i ≠ j) →
   wpOp P ops.toArray (post n k0 Q E0) j (wpAny P md ops.toArray (post n k0 Q E0) fuel (listed.setIfInBounds j true)) a E.w := by
   intro E m m' s' hx hm hlook hfj hsf hs' hmm hm' hdone hnone
   have := hsf E a hm.store hlook (wpAny P md ops.toArray (post n k0 Q E0) fuel (listed.setIfInBounds j true)) (post n k0 Q E0) fun E' cv h1 h2 h3 => by
    refine ih _ E' _ m' fb (hx.trans (h3.mono hx.n)) { size := by simpa using hm.size, closed := hclosed2, mle := hm', done := fun i hi he => ?_, none := fun i hi he => ?_, store := by rw [← hs']; exact h1, tsize := by cases o.dst <;> simp [Act.put, hm.tsize], defers := by cases o.dst <;> simp [Act.put, hm.defers], new := ?_, fl := ?_, fne := ?_, old := ?_ } hcnt2
    · simp only [zq1 hjl, Bool.or_eq_true, decide_eq_true_eq]
      rcases hdone i hi he with h | h
      · exact .inl (hm.done i h he)
      · exact .inr h
    · simp only [zq1 hjl, Bool.or_eq_false_iff, decide_eq_false_iff_not]
      exact ⟨hm.none i (by omega) he, hnone i hi he⟩
    · intro t k p hk hl hnf hp
      simp only [zq1 hjl, Bool.or_eq_true, decide_eq_true_eq] at hl
      by_cases e : k = j
      · subst e
        rw [ho] at hk; cases hk
        have htn := hd o (List.mem_of_getElem? ho) t hp
        have : (a.put o.dst cv).tmps.getD t undef = cv := by rw [hp]; simp [Act.put, hm.tsize, htn]
        rw [this]; exact h2
      · have hne : o.dst ≠ some t := zz4 hchk ho hk e hp
        have : (a.put o.dst cv).tmps.getD t undef = a.tmps.getD t undef := by
         cases hdst : o.dst with
         | none => rfl
         | some d =>
          have : d ≠ t := fun h => hne (by rw [hdst, h])
          simp [Act.put, Array.getElem?_setIfInBounds_ne this]
        rw [this]
        refine (hm.new t k p hk (hl.resolve_right e) (fun hh => ?_) hp).ext h3
        have hke := chk_flt hchk hk hh.1
        have : ¬ m' ≤ k := fun h => hnf ⟨hh.1, h⟩
        rcases hdone k (by omega) hke with h | h
        · omega
        · exact e h
    · intro k p hk hl hf hmk
      have hkj : k ≠ j := by intro e; rw [e, hfj] at hf; cases hf
      simp only [zq1 hjl, Bool.or_eq_true, decide_eq_true_eq, hkj, or_false] at hl
      obtain ⟨cs, v, e1, e2, e3, e4⟩ := hm.fl k p hk hl hf (by omega)
      refine ⟨cs, v, e1, e2, e3.ext h3, fun t ht => ?_⟩
      have hne : o.dst ≠ some t := zz4 hchk ho hk hkj ht
      have : (a.put o.dst cv).tmps.getD t undef = a.tmps.getD t undef := by
       cases hdst : o.dst with
       | none => rfl
       | some d =>
        have : d ≠ t := fun h => hne (by rw [hdst, h])
        simp [Act.put, Array.getElem?_setIfInBounds_ne this]
      rw [this]; exact e4 t ht
    · intro i k g1 g2 g3 g4 g5 g6 hik
      have hij : i ≠ j := by intro e; rw [e, hfj] at g2; cases g2
      have hkj : k ≠ j := by intro e; rw [e, hfj] at g5; cases g5
      simp only [zq1 hjl, Bool.or_eq_true, decide_eq_true_eq, hij, hkj, or_false] at g1 g4
      exact hm.fne i k g1 g2 (by omega) g4 g5 (by omega) hik
    · intro t hno
      have hot : o.dst ≠ some t := hno j o ho (by simp [zq1 hjl])
      have : (a.put o.dst cv).tmps.getD t undef = a.tmps.getD t undef := by
       cases hdst : o.dst with
       | none => rfl
       | some d =>
        have : d ≠ t := fun h => hot (by rw [hdst, h])
        simp [Act.put, Array.getElem?_setIfInBounds_ne this]
      rw [this]
      exact (hm.old t fun k p hk hl => hno k p hk (by simp [zq1 hjl, hl])).ext h3
   unfold wpOp
   simp only [ho']
   exact this
  cases hh : hard eff flt j with
  | true =>
   have he : eff j = true := by simp only [hard, Bool.and_eq_true] at hh; exact hh.1
   have hfj : flt j = false := by simp only [hard, Bool.and_eq_true, Bool.not_eq_true'] at hh; exact hh.2
   have hmj := mlej he
   obtain ⟨E, hw, hm, hx⟩ := Mid.advance F r S hchk (show j ≤ ops.length by omega) (j - m1) m1 E1 (by omega) hm1 hx1 fun i h1 h2 hei => by
    obtain ⟨q, hq⟩ : ∃ q, ops[i]? = some q := ⟨_, List.getElem?_eq_getElem (by omega)⟩
    have hl := before i (chk_hard hchk ho hq hei hh h2)
    exact ⟨hl, soft i h1 hei hl⟩
   rw [← hw]
   have hcj : cnt eff (j + 1) = cnt eff j + 1 := by simp [cnt, he]
   exact step E j (j + 1) _ hx hm (look E j hm hmj fun _ => rfl) hfj (heff j o ho hh) (by rw [hcj]) (by omega) (by omega) (fun i hi _ => by omega) (fun i hi _ => by omega)
  | false =>
  cases hf : flt j with
  | true =>
   obtain ⟨hg, e, hop, hal⟩ := hflt j o ho hf
   have he := chk_flt hchk ho hf
   have hmj := mlej he
   obtain ⟨cs, w', v, g1, g2, g3, g4, g5, g6⟩ := run_float (P := P) hT hm1.store hal
   obtain ⟨hS', hx'⟩ := hm1.store.grew g4
   have hput : ∀ t, (a.put o.dst v).tmps.getD t undef = if o.dst = some t then v else a.tmps.getD t undef := by
    intro t
    split
    · rename_i hp
      have htn := hd o (List.mem_of_getElem? ho) t hp
      rw [hp]; simp [Act.put, hm1.tsize, htn]
    · rename_i hne
      cases hdst : o.dst with
      | none => rfl
      | some d =>
       have : d ≠ t := fun h => hne (by rw [hdst, h])
       simp [Act.put, Array.getElem?_setIfInBounds_ne this]
   have key : wpAny P md ops.toArray (post n k0 Q E0) fuel (listed.setIfInBounds j true) (a.put o.dst v) w' := by
    refine ih _ { E1 with w := w' } _ m1 (fun i => if i = j then E1.w.heap.size else fb i) (hx1.trans (hx'.mono hx1.n)) { size := by simpa using hm1.size, closed := hclosed2, mle := hm1.mle, done := fun i hi he' => ?_, none := fun i hi he' => ?_, store := hS', tsize := by cases o.dst <;> simp [Act.put, hm1.tsize], defers := by cases o.dst <;> simp [Act.put, hm1.defers], new := ?_, fl := ?_, fne := ?_, old := ?_ } hcnt2
    · simp only [zq1 hjl, Bool.or_eq_true, decide_eq_true_eq]
      exact .inl (hm1.done i hi he')
    · simp only [zq1 hjl, Bool.or_eq_false_iff, decide_eq_false_iff_not]
      exact ⟨hm1.none i hi he', by rintro rfl; rw [hh] at he'; cases he'⟩
    · intro t k p hk hl hnf hp
      simp only [zq1 hjl, Bool.or_eq_true, decide_eq_true_eq] at hl
      have hkj : k ≠ j := by rintro rfl; exact hnf ⟨hf, hmj⟩
      rw [hput, if_neg (zz4 hchk ho hk hkj hp)]
      exact (hm1.new t k p hk (hl.resolve_right hkj) hnf hp).ext hx'
    · intro k p hk hl hfk hmk
      simp only [zq1 hjl, Bool.or_eq_true, decide_eq_true_eq] at hl
      by_cases e : k = j
      · subst e
        rw [ho] at hk; cases hk
        exact ⟨cs, v, g2, g1, by simp only [if_true]; exact { g6 with lo := hx1.size }, fun t ht => by rw [hput, if_pos ht]⟩
      · obtain ⟨cs', v', e1, e2, e3, e4⟩ := hm1.fl k p hk (hl.resolve_right e) hfk hmk
        exact ⟨cs', v', e1, e2, by simp only [e, if_false]; exact e3.ext hx', fun t ht => by rw [hput, if_neg (zz4 hchk ho hk e ht)]; exact e4 t ht⟩
    · intro i k h1 h2 h3 h4 h5 h6 hik
      simp only [zq1 hjl, Bool.or_eq_true, decide_eq_true_eq] at h1 h4
      have lt : ∀ q, q ≠ j → listed.getD q false = true → flt q = true → m1 ≤ q → fb q < E1.w.heap.size := by
       intro q hq hl hfq hmq
       have hql : q < ops.length := by
        rcases Nat.lt_or_ge q ops.length with h | h
        · exact h
        · rw [show listed.getD q false = false by simp [show ¬ q < listed.size by have := hm1.size; omega]] at hl; cases hl
       obtain ⟨p, hp⟩ : ∃ p, ops[q]? = some p := ⟨_, List.getElem?_eq_getElem hql⟩
       obtain ⟨_, _, _, _, e3, _⟩ := hm1.fl q p hp hl hfq hmq
       exact e3.hi
      by_cases ei : i = j
      · have ek : k ≠ j := by rintro rfl; exact hik ei
        have := lt k ek (h4.resolve_right ek) h5 h6
        simp only [ei, ek, if_true, if_false]; omega
      · by_cases ek : k = j
        · have := lt i ei (h1.resolve_right ei) h2 h3
          simp only [ei, ek, if_true, if_false]; omega
        · simp only [ei, ek, if_false]
          exact hm1.fne i k (h1.resolve_right ei) h2 h3 (h4.resolve_right ek) h5 h6 hik
    · intro t hno
      have hot : o.dst ≠ some t := hno j o ho (by simp [zq1 hjl])
      rw [hput, if_neg hot]
      exact (hm1.old t fun k p hk hl => hno k p hk (by simp [zq1 hjl, hl])).ext hx'
   have hwant : Region.wanted o (yielded ops.toArray a.tmps) = true := by simp [Region.wanted, hg]
   unfold wpOp
   simp only [ho']
   rw [if_pos hwant]
   refine .inl ?_
   unfold Oper.wp
   have hrun : (execOp a.eval o).run P E1.w = .ok (.value v) w' := by
    obtain ⟨dst, op, ty, pos, after, guard⟩ := o
    simp only at hop
    subst hop
    simp only [execOp, Sem.run_bind, g3, Result.andThen_ok, Sem.run_pure]
   rw [hrun]
   exact key
  | false =>
   have he : eff j = false := by simpa [hard, hf] using hh
   refine step E1 m1 m1 _ hx1 hm1 (look E1 m1 hm1 (nR _) fun h => by rw [hh] at h; cases h) hf (hpure j o ho he _ ?_ ?_) rfl (nR _) hm1.mle (fun i hi _ => .inl hi) (fun i hi h1 h2 => by subst h2; rw [hh] at h1; cases h1)
   · exact zX4 eff hm1.mle
   · simp only [meets]
     refine List.all_eq_true.2 fun i hi => ?_
     have hil : i < ops.length := by simpa using hi
     cases hei : eff i with
     | false => simp
     | true =>
      simp only [Bool.not_true, Bool.false_or, Bool.and_eq_true, Bool.or_eq_true, Bool.not_eq_true', List.contains_eq_mem, decide_eq_false_iff_not, decide_eq_true_eq]
      constructor
      · by_cases h : i ∈ (anc ops).getD j []
        · cases hfi : flt i with
          | true => exact .inl (.inl rfl)
          | false => exact .inr (cnt_lt eff (hardlt i (by simp [hard, hei, hfi]) (before i h)) hei)
        · exact .inl (.inr h)
      · by_cases h : j ∈ (anc ops).getD i []
        · refine .inr (zX4 eff ?_)
          rcases Nat.lt_or_ge i m1 with h1 | h1
          · have := hm1.done i h1 hei
            rw [behind i hil h] at this; cases this
          · exact h1
        · exact .inl h
theorem awp_drawn {T : TT} (hT : TOK P T) {id : Nat} (hchk : zS2 ops eff flt = true) (hF : ∀ j o, ops[j]? = some o → F (j + 1) = updO (F j) o.dst (r j)) (hd : ∀ o ∈ ops, ∀ t, o.dst = some t → t < n)
 (heff : ∀ j o, ops[j]? = some o → hard eff flt j = true → SF P n ops o (F j) (S (cnt eff j)) (r j) (S (cnt eff j + 1)))
 (hflt : ∀ j o, ops[j]? = some o → flt j = true → o.guard = none ∧ ∃ e, o.op = .alloc e ∧ zZ2 T e (S (cnt eff j)) = some (r j, S (cnt eff j + 1)))
 (hpure : ∀ j o, ops[j]? = some o → eff j = false → ∀ k, k ≤ cnt eff ops.length → meets ops eff flt j k = true → SF P n ops o (F j) (S k) (r j) (S k))
 (hQ : Q .normal (F ops.length) (S (cnt eff ops.length))) : awp P n k0 (.region id ops.toArray true) Q (F 0) (S 0) := by
 intro E a hk0 hS hF0
 refine wp_region_draw fun t => ?_
 obtain ⟨hS1, hx1⟩ := hS.grew (Grew.drew E.w)
 have hfalse : ∀ i, (Array.replicate ops.toArray.size false).getD i false = false := by
  intro i; by_cases h : i < ops.length <;> simp [h]
 have mid : Mid (n := n) (ops := ops) (eff := eff) (flt := flt) F r S E.w.heap.size { E with w := E.w.drew } (Array.replicate ops.toArray.size false) a 0 (fun _ => 0) :=
  { size := by simp
    closed := fun j o _ h => by simp only [hfalse] at h; cases h
    mle := Nat.zero_le _
    done := fun i h => by omega
    none := fun i _ _ => hfalse i
    store := hS1
    tsize := hF0.size
    defers := hF0.defers
    new := fun t j o _ h => by simp only [hfalse] at h; cases h
    fl := fun j o _ h => by simp only [hfalse] at h; cases h
    fne := fun i j h => by simp only [hfalse] at h; cases h
    old := fun t _ => (hF0.tmps t).ext hx1 }
 have lin : ∀ md t, wpOps P ops.toArray (post n k0 Q E) (Region.linearise md ops.toArray t) a E.w.drew := fun md t =>
  wpAny_sound ops.toArray.size t _ a _ (wpAny_mid F r S hT hchk hF hd heff hflt hpure hQ E ops.toArray.size _ { E with w := E.w.drew } a 0 _ (hx1.mono hk0) mid (by simp))
 unfold Region.schedule
 split
 · exact lin _ _
 · exact lin _ _
end
end AM
end Go.Proofs.YtaddlmlpeghonaaDoor
end
section
namespace Go.Proofs.YtaddlmlpeghonaaDoor
namespace AM
open Go.RowKit
def memFree (o : Op) : Bool :=
 match o with
 | .move _ | .assign _ | .pick .. | .build .. | .nilCheck _ | .binOp .. | .unOp .. | .makeInterface .. | .makeFunc .. | .slice .. | .fieldAddr .. | .field .. | .indexAddr .. | .index .. | .typeAssert .. | .extract .. => true
 | _ => false
theorem memFree_any {T : TT} {o : Op} {ρ : Operand → AV} {σ σ' : Store} {r : AV} (h : evOp T o ρ σ = some (r, σ')) (hm : memFree o = true) (τ : Store) : evOp T o ρ τ = some (r, τ) := by
 have key : ∀ x : Option AV, zk2 σ x = some (r, σ') → zk2 τ x = some (r, τ) := by
  intro x hx; rw [(zU hx).1]; rfl
 cases o <;> simp only [memFree, Bool.false_eq_true] at hm <;> simp only [evOp, sI, Prod.mk.injEq] at h ⊢
 all_goals first
  | exact key _ h
  | exact ⟨h.1, trivial⟩
inductive EK where
 | eff
 | flt
 | any
 | own (m : Nat) (x : List Nat)
 | at (bs : List Nat)
def stabs (T : TT) (o : Op) (ρ : Operand → AV) (r : AV) (Ss : List Store) : List Nat → Prop
 | [] => True
 | b :: bs => (∃ τ, Ss[b]? = some τ ∧ evOp T o ρ τ = some (r, τ)) ∧ stabs T o ρ r Ss bs
def refs : AV → List Nat
 | .op a _ _ => [a]
 | .os _ _ a _ _ _ _ => [a]
 | .mp a => [a]
 | _ => []
def za4 (o : Op) (ρ : Operand → AV) : Option (List Nat) :=
 match o with
 | .load _ a => some (refs (ρ a))
 | .lookup _ m _ _ => some (refs (ρ m))
 | .convert _ _ x => some (refs (ρ x))
 | .call { callee := .builtin .len, args := args, .. } => some ((args.toList.map ρ).flatMap refs)
 | _ => none
def hasN : List Nat → Nat → Bool
 | [], _ => false
 | b :: l, a => bif decide (a = b) then true else hasN l a
def ownA (N : Nat) (ex : List Nat) : List Nat → Prop
 | [] => True
 | a :: l => (a < N ∧ hasN ex a = false) ∧ ownA N ex l
def ownL (N : Nat) (ex : List Nat) : Option (List Nat) → Prop
 | none => False
 | some l => ownA N ex l
theorem ownA_spec {N : Nat} {ex : List Nat} : ∀ {l : List Nat}, ownA N ex l → ∀ id ∈ l, id < N ∧ hasN ex id = false := by
 intro l
 induction l with
 | nil => intro _ id h; cases h
 | cons a l ih =>
  intro h id hid
  have h' : (a < N ∧ hasN ex a = false) ∧ ownA N ex l := h
  rcases mI.1 hid with rfl | hid
  · exact h'.1
  · exact ih h'.2 id hid
theorem ownL_spec {N : Nat} {ex : List Nat} {x : Option (List Nat)} (h : ownL N ex x) : ∃ l, x = some l ∧ ∀ id ∈ l, id < N ∧ hasN ex id = false := by
 cases x with
 | none => exact False.elim h
 | some l => exact ⟨l, rfl, ownA_spec h⟩
def agr (ex : List Nat) : Nat → Store → Store → Store → Prop
 | _, [], _, _ => True
 | i, _ :: z, a :: s, b :: s' => (hasN ex i = true ∨ b = a) ∧ agr ex (i + 1) z s s'
 | _, _ :: _, _, _ => False
def Agr (ex : List Nat) (N : Nat) (σ σ' : Store) : Prop := ∀ id, id < N → hasN ex id = false → σ'[id]? = σ[id]?
theorem agr_spec {ex : List Nat} : ∀ {z s s' : Store} {i : Nat}, agr ex i z s s' → ∀ id, id < z.length → hasN ex (i + id) = false → s'[id]? = s[id]? := by
 intro z
 induction z with
 | nil => intro s s' i _ id h; simp at h
 | cons o z ih =>
  intro s s' i h id hid hx
  cases s with
  | nil => simp [agr] at h
  | cons a s =>
  cases s' with
  | nil => simp [agr] at h
  | cons b s' =>
  cases id with
  | zero =>
   rcases h.1 with h1 | h1
   · rw [Nat.add_zero] at hx; rw [hx] at h1; cases h1
   · simp [h1]
  | succ id =>
   simp only [List.getElem?_cons_succ]
   exact ih h.2 id (by simpa using hid) (by rw [← hx]; congr 1; omega)
theorem agr_Agr {ex : List Nat} {z s s' : Store} (h : agr ex 0 z s s') : Agr ex z.length s s' := fun id h1 h2 => agr_spec h id h1 (by rw [nZ]; exact h2)
def agrs (k : Nat) (z s s' : Store) : List (Nat × List Nat) → Prop
 | [] => True
 | (m, x) :: l => (if k ≤ m then agr x 0 z s s' else True) ∧ agrs k z s s' l
def Agrs (ex : List (Nat × List Nat)) (k N : Nat) (s s' : Store) : Prop := ∀ m x, (m, x) ∈ ex → k ≤ m → Agr x N s s'
theorem zL5 {k : Nat} {z s s' : Store} : ∀ {ex : List (Nat × List Nat)}, agrs k z s s' ex → Agrs ex k z.length s s' := by
 intro ex
 induction ex with
 | nil => intro _ m x h; cases h
 | cons p ex ih =>
  intro h m x hm hk
  obtain ⟨q, y⟩ := p
  rcases mI.1 hm with e | hm
  · cases e
    have := h.1
    rw [if_pos hk] at this
    exact agr_Agr this
  · exact ih h.2 m x hm hk
def inEx : List (Nat × List Nat) → Nat → List Nat → Bool
 | [], _, _ => false
 | (m, x) :: l, q, y => (m == q && x == y) || inEx l q y
theorem inEx_mem : ∀ {ex : List (Nat × List Nat)} {q : Nat} {y : List Nat}, inEx ex q y = true → (q, y) ∈ ex := by
 intro ex
 induction ex with
 | nil => intro q y h; cases h
 | cons p ex ih =>
  intro q y h
  obtain ⟨m, x⟩ := p
  simp only [inEx, Bool.or_eq_true, Bool.and_eq_true, beq_iff_eq] at h
  rcases h with ⟨rfl, rfl⟩ | h
  · exact mS ..
  · exact mO _ (ih h)
theorem Store.at_eq {σ τ : Store} {id ver : Nat} (h : τ[id]? = σ[id]?) : Store.at τ id ver = Store.at σ id ver := by unfold Store.at; rw [h]
theorem Store.mapAt_eq {σ τ : Store} {id : Nat} (h : τ[id]? = σ[id]?) : Store.mapAt τ id = Store.mapAt σ id := by unfold Store.mapAt; rw [h]
theorem zh5 {σ τ : Store} {n : Nat} {x : AV} (ha : ∀ id ∈ refs x, τ[id]? = σ[id]?) : zF τ n x = zF σ n x := by
 cases x <;> try rfl
 simp only [zF, Store.at_eq (ha _ (List.mem_singleton.2 rfl))]
theorem evLoad_own {T : TT} {t : TypeId} {x : AV} {σ τ : Store} (ha : ∀ id ∈ refs x, τ[id]? = σ[id]?) : zJ1 T t x τ = zJ1 T t x σ := by
 unfold zJ1
 cases T t with
 | none => rfl
 | some i =>
  cases x <;> try rfl
  simp only [Store.at_eq (ha _ (List.mem_singleton.2 rfl))]
theorem evLen_own {T : TT} {t : TypeId} {x : AV} {σ τ : Store} (ha : ∀ id ∈ refs x, τ[id]? = σ[id]?) : zx1 T t x τ = zx1 T t x σ := by
 unfold zx1
 cases T t with
 | none => rfl
 | some i =>
  simp only
  cases i.desc <;> cases x <;> try rfl
  simp only [ha _ (List.mem_singleton.2 rfl)]
theorem evLookup_own {T : TT} {t : TypeId} {x k : AV} {ok : Bool} {σ τ : Store} (ha : ∀ id ∈ refs x, τ[id]? = σ[id]?) : zA2 T t x k ok τ = zA2 T t x k ok σ := by
 unfold zA2
 cases x <;> try rfl
 simp only [Store.mapAt_eq (ha _ (List.mem_singleton.2 rfl))]
theorem evConv_own {T : TT} {s d : TypeId} {x : AV} {σ τ : Store} {r : AV} (h : zi3 T s d x σ = some (r, σ)) (ha : ∀ id ∈ refs x, τ[id]? = σ[id]?) : zi3 T s d x τ = some (r, τ) := by
 unfold zi3 at h ⊢
 cases h1 : T s with
 | none => simp only [h1] at h; cases h
 | some i =>
 cases h2 : T d with
 | none => simp only [h1, h2] at h; cases h
 | some k =>
 simp only [h1, h2] at h ⊢
 split at h
 · cases h; rfl
 · cases h; rfl
 · split at h
   · split at h
     · split at h
       · simp only [sI, Prod.mk.injEq, List.append_right_eq_self] at h
         cases h.2
       · cases h
     · cases h
   · cases h
 · rename_i nl cells len t hk
   split at h
   · rename_i e he
     split at h
     · rename_i j hj
       split at h
       · rename_i q cs hd hs
         have hs' : zF τ 1 (.ds nl cells len t) = some (q, cs) := (zh5 ha).trans hs
         simp only [he, hj, hd, hs']
         cases hu : unbs cs with
         | none => rw [hu] at h; cases h
         | some l => rw [hu] at h; simp only [Option.map_some, sI, Prod.mk.injEq] at h ⊢; exact ⟨h.1, trivial⟩
       · cases h
     · cases h
   · cases h
 · rename_i nl sz id ver off len t hk
   split at h
   · rename_i e he
     split at h
     · rename_i j hj
       split at h
       · rename_i q cs hd hs
         have hs' : zF τ 1 (.os nl sz id ver off len t) = some (q, cs) := (zh5 ha).trans hs
         simp only [he, hj, hd, hs']
         cases hu : unbs cs with
         | none => rw [hu] at h; cases h
         | some l => rw [hu] at h; simp only [Option.map_some, sI, Prod.mk.injEq] at h ⊢; exact ⟨h.1, trivial⟩
       · cases h
     · cases h
   · cases h
 · rename_i e nl sz id ver off len t hk
   split at h
   · rename_i e' he
     split at h
     · rename_i hsd
       rw [if_pos hsd]
       split at h
       · rename_i j hj
         split at h
         · rename_i cs hd hs
           have hs' : Store.at τ id ver = some cs := (Store.at_eq (ha _ (by simp [refs]))).trans hs
           simp only [he, hj, hd, hs']
           split at h
           · rename_i hq
             rw [if_pos hq]
             simp only [sI, Prod.mk.injEq] at h ⊢
             exact ⟨h.1, trivial⟩
           · cases h
         · cases h
       · cases h
     · cases h
   · cases h
 · cases h
theorem evOp_own {T : TT} {o : Op} {ρ : Operand → AV} {σ τ : Store} {r : AV} {l : List Nat} (hl : za4 o ρ = some l) (h : evOp T o ρ σ = some (r, σ)) (ha : ∀ id ∈ l, τ[id]? = σ[id]?) : evOp T o ρ τ = some (r, τ) := by
 have key : ∀ x y : Option AV, y = x → zk2 σ x = some (r, σ) → zk2 τ y = some (r, τ) := by
  rintro x _ rfl hx; rw [(zU hx).1]; rfl
 unfold za4 at hl
 split at hl
 · rename_i t a
   cases hl
   simp only [evOp] at h ⊢
   split
   · rename_i hs
     rw [if_pos hs] at h
     exact key _ _ (evLoad_own ha) h
   · rename_i hs; rw [if_neg hs] at h; cases h
 · rename_i t m k ok
   cases hl
   simp only [evOp] at h ⊢
   exact key _ _ (evLookup_own ha) h
 · rename_i s d x
   cases hl
   simp only [evOp] at h ⊢
   exact evConv_own h ha
 · rename_i args ats
   cases hl
   simp only [evOp] at h ⊢
   unfold zx3 at h ⊢
   revert ha h
   generalize args.toList.map ρ = l
   generalize ats.toList = m
   intro h ha
   match m, l with
   | [t], [x] =>
    exact key _ _ (evLen_own fun id hid => ha id (by simpa using hid)) h
   | [], _ => cases h
   | _ :: _ :: _, _ => cases h
   | [_], [] => cases h
   | [_], _ :: _ :: _ => cases h
 · cases hl
def isAlloc (o : Oper) : Bool :=
 match o.op, o.guard with
 | .alloc _, none => true
 | _, _ => false
theorem isAlloc_spec {o : Oper} (h : isAlloc o = true) : o.guard = none ∧ ∃ e, o.op = .alloc e := by
 unfold isAlloc at h
 split at h
 · rename_i e h1 h2; exact ⟨h2, e, h1⟩
 · cases h
def evD (T : TT) (n : Nat) (ops : Array Oper) (z : Store) (ex : List (Nat × List Nat)) : List Oper → List EK → Fr → List Store → List AV → Prop → Option (List Oper × List EK × Fr × List Store × List AV × Prop)
 | [], es, F, Ss, rs, C => some ([], es, F, Ss, rs, C)
 | o :: l, e :: es, F, σ :: Ss, rs, C =>
  match zS1 ops F o with
  | some true => bif isCall o then some (o :: l, e :: es, F, σ :: Ss, rs, C) else
   bif dstOk n o.dst then
    match evOp T o.op (ev F) σ with
    | some (r, σ') => match e with
     | .eff => evD T n ops z ex l es (updO F o.dst r) (σ' :: σ :: Ss) (r :: rs) (C ∧ agrs (Ss.length + 1) z σ σ' ex)
     | .flt => bif isAlloc o then evD T n ops z ex l es (updO F o.dst r) (σ' :: σ :: Ss) (r :: rs) (C ∧ agrs (Ss.length + 1) z σ σ' ex) else none
     | .own _ x => evD T n ops z ex l es (updO F o.dst r) (σ :: Ss) (r :: rs) (C ∧ σ' = σ ∧ ownL z.length x (za4 o.op (ev F)))
     | .any => bif memFree o.op then evD T n ops z ex l es (updO F o.dst r) (σ :: Ss) (r :: rs) C else evD T n ops z ex l es (updO F o.dst r) (σ :: Ss) (r :: rs) (C ∧ ∀ τ, evOp T o.op (ev F) τ = some (r, τ))
     | .at bs => evD T n ops z ex l es (updO F o.dst r) (σ :: Ss) (r :: rs) (C ∧ σ' = σ ∧ stabs T o.op (ev F) r (σ :: Ss) bs)
    | none => none
   else none
  | some false => bif dstOk n o.dst then
   match e with
   | .eff => evD T n ops z ex l es (updO F o.dst .u) (σ :: σ :: Ss) (.u :: rs) C
   | .flt => none
   | _ => evD T n ops z ex l es (updO F o.dst .u) (σ :: Ss) (.u :: rs) C
   else none
  | none => none
 | _ :: _, _, _, _, _, _ => none
def foldU : List Oper → List AV → Fr → Fr
 | o :: l, r :: rs, F => foldU l rs (updO F o.dst r)
 | _, _, F => F
def kOf (es : List EK) (i : Nat) : EK := es.getD i .any
def isE (es : List EK) (i : Nat) : Bool :=
 match kOf es i with
 | .eff => true
 | .flt => true
 | _ => false
def isF (es : List EK) (i : Nat) : Bool :=
 match kOf es i with
 | .flt => true
 | _ => false
def EffFact (P : Program) (n : Nat) (T : TT) (ops : List Oper) (es : List EK) (i : Nat) (o : Oper) (F : Fr) (σ : Store) (r : AV) (σ' : Store) : Prop :=
 (isF es i = false ∧ SF P n ops o F σ r σ') ∨ (isF es i = true ∧ o.guard = none ∧ ∃ e, o.op = .alloc e ∧ zZ2 T e σ = some (r, σ'))
def chkD (ops : List Oper) (es : List EK) (ex : List (Nat × List Nat)) : Bool :=
 zS2 ops (isE es) (isF es) && (List.range ops.length).all fun j => match kOf es j with
  | .at bs => (List.range (cnt (isE es) ops.length + 1)).all fun k => !meets ops (isE es) (isF es) j k || k == cnt (isE es) j || bs.any fun b => k + b == cnt (isE es) j
  | .own m x => inEx ex m x && Nat.ble (cnt (isE es) j) m && (List.range (cnt (isE es) ops.length + 1)).all fun k => !meets ops (isE es) (isF es) j k || Nat.ble k m
  | _ => true
section
variable {P : Program} {n k0 : Nat} {Q : Exit → Fr → Store → Prop}
def PureFact (T : TT) (z : Store) (ex : List (Nat × List Nat)) (ops : List Oper) (es : List EK) (i : Nat) (o : Oper) (F : Fr) (r : AV) (S : Nat → Store) : Prop :=
 (zS1 ops.toArray F o = some false ∧ r = .u) ∨
 (zS1 ops.toArray F o = some true ∧ match kOf es i with
  | .at bs => ∀ k, (k = cnt (isE es) i ∨ ∃ b ∈ bs, k + b = cnt (isE es) i) → evOp T o.op (ev F) (S k) = some (r, S k)
  | .own m x => (m, x) ∈ ex → cnt (isE es) i ≤ m → ∃ l, za4 o.op (ev F) = some l ∧ (∀ id ∈ l, id < z.length ∧ hasN x id = false) ∧ evOp T o.op (ev F) z = some (r, z)
  | _ => ∀ τ, evOp T o.op (ev F) τ = some (r, τ))
theorem PureFact.congr {T : TT} {z : Store} {ex : List (Nat × List Nat)} {ops : List Oper} {es : List EK} {i : Nat} {o : Oper} {F : Fr} {r : AV} {S S' : Nat → Store} (h : PureFact T z ex ops es i o F r S) (hS : ∀ k, k ≤ cnt (isE es) i → S' k = S k) : PureFact T z ex ops es i o F r S' := by
 rcases h with h | ⟨h1, h2⟩
 · exact .inl h
 · refine .inr ⟨h1, ?_⟩
   generalize kOf es i = q at h2
   cases q with
   | eff => exact h2
   | flt => exact h2
   | any => exact h2
   | own m x => exact h2
   | «at» bs =>
    intro k hk
    rw [hS k (by rcases hk with h | ⟨b, _, h⟩ <;> omega)]
    exact h2 k hk
def stk (Ss : List Store) (k : Nat) : Store := Ss.reverse.getD k []
theorem stk_cons {Ss : List Store} {σ : Store} {k : Nat} (h : k < Ss.length) : stk (σ :: Ss) k = stk Ss k := by
 unfold stk
 rw [List.reverse_cons, gG, gL (by rw [List.length_reverse]; exact h), ← gG]
theorem zR3 {Ss : List Store} {σ : Store} {k : Nat} (h : k = Ss.length) : stk (σ :: Ss) k = σ := by
 unfold stk
 rw [List.reverse_cons, gG, gR (by simp [h])]
 subst h; simp
theorem stk_back {Ss : List Store} {b k : Nat} {τ : Store} (h : Ss[b]? = some τ) (hk : k + b + 1 = Ss.length) : stk Ss k = τ := by
 unfold stk
 rw [gG, List.getElem?_reverse (by omega), show Ss.length - 1 - k = b by omega, h]; rfl
def nth (rs : List AV) (i : Nat) : AV := rs.reverse.getD i .u
theorem nth_cons {rs : List AV} {r : AV} {i : Nat} (h : i < rs.length) : nth (r :: rs) i = nth rs i := by
 unfold nth
 rw [List.reverse_cons, gG, gL (by rw [List.length_reverse]; exact h), ← gG]
theorem nth_top {rs : List AV} {r : AV} {i : Nat} (h : i = rs.length) : nth (r :: rs) i = r := by
 unfold nth
 rw [List.reverse_cons, gG, gR (by simp [h])]
 subst h; simp
def frs (ops : List Oper) (rs : List AV) (F : Fr) (i : Nat) : Fr := foldU (ops.take i) (rs.reverse.take i) F
theorem zW4 {ops : List Oper} {rs : List AV} {F : Fr} {r : AV} {i : Nat} (h : i ≤ rs.length) : frs ops (r :: rs) F i = frs ops rs F i := by
 unfold frs
 rw [List.reverse_cons, List.take_append_of_le_length (by simpa using h)]
theorem foldU_snoc : ∀ (l : List Oper) (rs : List AV) (F : Fr) (o : Oper) (r : AV), rs.length = l.length → foldU (l ++ [o]) (rs ++ [r]) F = updO (foldU l rs F) o.dst r := by
 intro l
 induction l with
 | nil => intro rs F o r h; have : rs = [] := lI.1 h; subst this; rfl
 | cons x l ih =>
  intro rs F o r h
  cases rs with
  | nil => simp at h
  | cons y rs => exact ih rs _ o r (by simpa using h)
theorem take_snoc' {α : Type} {l : List α} {j : Nat} {x : α} (h : l[j]? = some x) : l.take (j + 1) = l.take j ++ [x] := by
 rw [List.take_add_one, h]; rfl
theorem frs_step {ops : List Oper} {rs : List AV} {F : Fr} {o : Oper} (ho : ops[rs.length]? = some o) (r : AV) : frs ops (r :: rs) F (rs.length + 1) = updO (frs ops rs F rs.length) o.dst r := by
 have hjl : rs.length < ops.length := (List.getElem?_eq_some_iff.1 ho).1
 unfold frs
 have e1 : (rs.reverse ++ [r]).take (rs.length + 1) = rs.reverse ++ [r] := List.take_of_length_le (by simp)
 have e2 : rs.reverse.take rs.length = rs.reverse := List.take_of_length_le (by simp)
 rw [take_snoc' ho, List.reverse_cons, e1, e2]
 exact foldU_snoc _ _ _ _ _ (by simp; omega)
structure Past (P : Program) (n : Nat) (T : TT) (ops : List Oper) (es : List EK) (F0 : Fr) (σ0 : Store) (ex : List (Nat × List Nat)) (j : Nat) (F : Fr) (Ss : List Store) (rs : List AV) : Prop where
 len : rs.length = j
 lenS : Ss.length = cnt (isE es) j + 1
 first : stk Ss 0 = σ0
 frame : F = frs ops rs F0 j
 dst : ∀ i o, i < j → ops[i]? = some o → dstOk n o.dst = true
 eff : ∀ i o, i < j → ops[i]? = some o → isE es i = true → EffFact P n T ops es i o (frs ops rs F0 i) (stk Ss (cnt (isE es) i)) (nth rs i) (stk Ss (cnt (isE es) i + 1))
 pure : ∀ i o, i < j → ops[i]? = some o → isE es i = false → PureFact T σ0 ex ops es i o (frs ops rs F0 i) (nth rs i) (stk Ss)
 agree : ∀ k, k < Ss.length → Agrs ex k σ0.length σ0 (stk Ss k)
theorem Past.start (T : TT) (ops : List Oper) (es : List EK) (F0 : Fr) (σ0 : Store) (ex : List (Nat × List Nat)) : Past P n T ops es F0 σ0 ex 0 F0 [σ0] [] where
 len := rfl
 lenS := rfl
 first := rfl
 frame := rfl
 dst := fun i o h => by omega
 eff := fun i o h => by omega
 pure := fun i o h => by omega
 agree := fun k h => by
  have : k = 0 := by simpa using h
  subst this; exact fun _ _ _ _ _ _ _ => rfl
theorem Past.step {T : TT} {ops : List Oper} {es : List EK} {F0 : Fr} {σ0 : Store} {ex : List (Nat × List Nat)} {j : Nat} {F : Fr} {σ : Store} {Ss : List Store} {rs : List AV} (h : Past P n T ops es F0 σ0 ex j F (σ :: Ss) rs) {o : Oper} (ho : ops[j]? = some o) (hd : dstOk n o.dst = true) {r : AV} {Ss' : List Store}
 (he : isE es j = true → ∃ σ', Ss' = σ' :: σ :: Ss ∧ Agrs ex (Ss.length + 1) σ0.length σ σ' ∧ EffFact P n T ops es j o F σ r σ')
 (hp : isE es j = false → Ss' = σ :: Ss ∧ PureFact T σ0 ex ops es j o F r (stk (σ :: Ss))) :
 Past P n T ops es F0 σ0 ex (j + 1) (updO F o.dst r) Ss' (r :: rs) := by
 have hlen := h.len
 have hlS := h.lenS
 simp only [lC] at hlS
 have hcur : stk (σ :: Ss) (cnt (isE es) j) = σ := zR3 (by omega)
 have hS : ∀ k, k ≤ cnt (isE es) j → stk Ss' k = stk (σ :: Ss) k := by
  intro k hk
  cases hej : isE es j with
  | true =>
   obtain ⟨σ', e1, _⟩ := he hej
   rw [e1]; exact stk_cons (by simp; omega)
  | false => rw [(hp hej).1]
 subst hlen
 refine ⟨rfl, ?_, ?_, ?_, fun i p hi hpp => ?_, fun i p hi hpp hei => ?_, fun i p hi hpp hei => ?_, fun k hk => ?_⟩
 · cases hej : isE es rs.length with
   | true => obtain ⟨σ', e1, _⟩ := he hej; rw [e1]; simp only [cnt, hej, if_true, lC]; omega
   | false => rw [(hp hej).1]; simp only [cnt, hej, lC]; simp; omega
 · rw [hS 0 (Nat.zero_le _)]; exact h.first
 · rw [frs_step ho, ← h.frame]
 · by_cases e : i = rs.length
   · subst e; rw [ho] at hpp; cases hpp; exact hd
   · exact h.dst i p (by omega) hpp
 · by_cases e : i = rs.length
   · subst e
     rw [ho] at hpp; cases hpp
     obtain ⟨σ', e1, _, e2⟩ := he hei
     rw [zW4 (nR _), ← h.frame, nth_top rfl, hS _ (nR _), hcur]
     have : stk Ss' (cnt (isE es) rs.length + 1) = σ' := by
      rw [e1]; exact zR3 (by simp; omega)
     rw [this]; exact e2
   · have h1 := h.eff i p (by omega) hpp hei
     have hc : cnt (isE es) i + 1 ≤ cnt (isE es) rs.length := by
      have := cnt_lt (isE es) (show i < rs.length by omega) hei; omega
     rw [zW4 (by omega), nth_cons (by omega), hS _ (by omega), hS _ hc]
     exact h1
 · by_cases e : i = rs.length
   · subst e
     rw [ho] at hpp; cases hpp
     obtain ⟨e1, e2⟩ := hp hei
     rw [zW4 (nR _), ← h.frame, nth_top rfl]
     exact e2.congr hS
   · have h1 := h.pure i p (by omega) hpp hei
     have hc := zX4 (isE es) (show i ≤ rs.length by omega)
     rw [zW4 (by omega), nth_cons (by omega)]
     exact h1.congr fun k hk => hS k (by omega)
 · cases hej : isE es rs.length with
   | true =>
    obtain ⟨σ', e1, e2, _⟩ := he hej
    rw [e1] at hk ⊢
    by_cases hkk : k = Ss.length + 1
    · intro m x hm hle id h1 h2
      rw [zR3 (by simpa using hkk)]
      have h3 := h.agree Ss.length (by simp) m x hm (by omega) id h1 h2
      rw [zR3 rfl] at h3
      exact (e2 m x hm (by omega) id h1 h2).trans h3
    · have hk' : k < (σ :: Ss).length := by simp only [lC] at hk ⊢; omega
      rw [stk_cons hk']; exact h.agree k hk'
   | false => rw [(hp hej).1] at hk ⊢; exact h.agree k hk
def DW (P : Program) (n k0 : Nat) (T : TT) (id : Nat) (ops : List Oper) (es : List EK) (F0 : Fr) (σ0 : Store) (ex : List (Nat × List Nat)) (Q : Exit → Fr → Store → Prop) (l : List Oper) (es' : List EK) (F : Fr) (Ss : List Store) (rs : List AV) : Prop :=
 (∃ j, ops.drop j = l ∧ es.drop j = es' ∧ Past P n T ops es F0 σ0 ex j F Ss rs) → awp P n k0 (.region id ops.toArray true) Q F0 σ0
theorem DW.start {T : TT} {id : Nat} {ops : List Oper} (es : List EK) (ex : List (Nat × List Nat)) {F0 : Fr} {σ0 : Store} (h : DW P n k0 T id ops es F0 σ0 ex Q ops es F0 [σ0] []) : awp P n k0 (.region id ops.toArray true) Q F0 σ0 :=
 h ⟨0, rfl, rfl, Past.start T ops es F0 σ0 ex⟩
theorem zu2 {α : Type} {l : List α} {j : Nat} {x : α} {m : List α} (h : l.drop j = x :: m) : l[j]? = some x ∧ l.drop (j + 1) = m := by
 constructor
 · have := List.getElem?_drop (xs := l) (i := j) (j := 0)
   rw [h] at this; simpa using this.symm
 · have := List.drop_drop (i := 1) (j := j) (l := l)
   rw [h] at this; simpa using this.symm
theorem zc4 {es es' : List EK} {j : Nat} {e : EK} (h : es.drop j = e :: es') : kOf es j = e := by
 have := (zu2 h).1
 simp [kOf, gG, this]
theorem stabs_spec {T : TT} {o : Op} {ρ : Operand → AV} {r : AV} {Ss : List Store} : ∀ {bs : List Nat}, stabs T o ρ r Ss bs → ∀ b ∈ bs, ∃ τ, Ss[b]? = some τ ∧ evOp T o ρ τ = some (r, τ) := by
 intro bs
 induction bs with
 | nil => intro _ b hb; cases hb
 | cons c bs ih =>
  intro h b hb
  rcases mI.1 hb with rfl | hb
  · exact h.1
  · exact ih h.2 b hb
def RunD (x : Option (List Oper × List EK × Fr × List Store × List AV × Prop)) (K : List Oper → List EK → Fr → List Store → List AV → Prop) : Prop :=
 match x with
 | some (l, es, F, Ss, rs, C) => C ∧ K l es F Ss rs
 | none => False
theorem RunD_some (l : List Oper) (es : List EK) (F : Fr) (Ss : List Store) (rs : List AV) (C : Prop) (K : List Oper → List EK → Fr → List Store → List AV → Prop) : RunD (some (l, es, F, Ss, rs, C)) K = (C ∧ K l es F Ss rs) := rfl
theorem evD_past {T : TT} (hT : TOK P T) {ops : List Oper} {es : List EK} {F0 : Fr} {σ0 : Store} {ex : List (Nat × List Nat)} (tl : List Oper) : ∀ (l : List Oper) (es' : List EK) (F : Fr) (Ss : List Store) (rs : List AV) (C : Prop) (l' : List Oper) (es'' : List EK) (F' : Fr) (Ss' : List Store) (rs' : List AV) (C' : Prop),
 evD T n ops.toArray σ0 ex l es' F Ss rs C = some (l', es'', F', Ss', rs', C') → C' → C ∧ ((∃ j, ops.drop j = l ++ tl ∧ es.drop j = es' ∧ Past P n T ops es F0 σ0 ex j F Ss rs) → ∃ j, ops.drop j = l' ++ tl ∧ es.drop j = es'' ∧ Past P n T ops es F0 σ0 ex j F' Ss' rs') := by
 intro l
 induction l with
 | nil => intro es' F Ss rs C l' es'' F' Ss' rs' C' h hC; simp only [evD] at h; cases h; exact ⟨hC, id⟩
 | cons o l ih =>
  intro es' F Ss rs C l' es'' F' Ss' rs' C' h hC
  cases es' with
  | nil => simp [evD] at h
  | cons e es' =>
  cases Ss with
  | nil => simp [evD] at h
  | cons σ Ss =>
  simp only [evD] at h
  have next : ∀ (r : AV) (Ss1 : List Store), dstOk n o.dst = true → (e = .eff ∨ e = .flt → ∃ σ', Ss1 = σ' :: σ :: Ss ∧ Agrs ex (Ss.length + 1) σ0.length σ σ' ∧ ∀ j, es.drop j = e :: es' → EffFact P n T ops es j o F σ r σ') → (e ≠ .eff ∧ e ≠ .flt → Ss1 = σ :: Ss ∧ ∀ j, es.drop j = e :: es' → cnt (isE es) j = Ss.length → Agrs ex Ss.length σ0.length σ0 σ → PureFact T σ0 ex ops es j o F r (stk (σ :: Ss))) →
   (∃ j, ops.drop j = o :: (l ++ tl) ∧ es.drop j = e :: es' ∧ Past P n T ops es F0 σ0 ex j F (σ :: Ss) rs) → ∃ j, ops.drop j = l ++ tl ∧ es.drop j = es' ∧ Past P n T ops es F0 σ0 ex j (updO F o.dst r) Ss1 (r :: rs) := by
   rintro r Ss1 hd h1 h2 ⟨j, e1, e2, e3⟩
   have hk := zc4 e2
   refine ⟨j + 1, (zu2 e1).2, (zu2 e2).2, e3.step (zu2 e1).1 hd (fun hE => ?_) (fun hE => ?_)⟩
   · have he : e = .eff ∨ e = .flt := by
      simp only [isE, hk] at hE
      split at hE
      · exact .inl rfl
      · exact .inr rfl
      · cases hE
     obtain ⟨σ', a1, a2, a3⟩ := h1 he
     exact ⟨σ', a1, a2, a3 j e2⟩
   · have hne : e ≠ .eff ∧ e ≠ .flt := ⟨by rintro rfl; simp [isE, hk] at hE, by rintro rfl; simp [isE, hk] at hE⟩
     have := e3.lenS
     simp only [lC] at this
     have ha := e3.agree Ss.length (by simp)
     rw [zR3 rfl] at ha
     exact ⟨(h2 hne).1, (h2 hne).2 j e2 (by omega) ha⟩
  split at h
  · rename_i hg
    rw [Bool.cond_eq_ite] at h
    split at h
    · cases h; exact ⟨hC, id⟩
    · rw [Bool.cond_eq_ite] at h
      split at h
      case isFalse => cases h
      rename_i hd
      split at h
      case h_2 => cases h
      rename_i r σ' hr
      split at h
      · obtain ⟨⟨h1, h3⟩, h2⟩ := ih _ _ _ _ _ _ _ _ _ _ _ h hC
        exact ⟨h1, fun hj => h2 (next r _ hd (fun _ => ⟨σ', rfl, zL5 h3, fun j hj => .inl ⟨by simp [isF, zc4 hj], SF.op hT hg hr⟩⟩) (fun hne => absurd rfl hne.1) hj)⟩
      · rw [Bool.cond_eq_ite] at h
        split at h
        case isFalse => cases h
        rename_i hal
        obtain ⟨⟨h1, h3⟩, h2⟩ := ih _ _ _ _ _ _ _ _ _ _ _ h hC
        obtain ⟨g1, x, g2⟩ := isAlloc_spec hal
        exact ⟨h1, fun hj => h2 (next r _ hd (fun _ => ⟨σ', rfl, zL5 h3, fun j hj => .inr ⟨by simp [isF, zc4 hj], g1, x, g2, by rw [g2] at hr; exact hr⟩⟩) (fun hne => absurd rfl hne.2) hj)⟩
      · obtain ⟨⟨h1, h3, h4⟩, h2⟩ := ih _ _ _ _ _ _ _ _ _ _ _ h hC
        refine ⟨h1, fun hj => h2 (next r _ hd (fun e => by rcases e with e | e <;> cases e) (fun _ => ⟨rfl, fun j hj hc ha => .inr ⟨hg, ?_⟩⟩) hj)⟩
        rw [zc4 hj]
        subst h3
        obtain ⟨l0, e1, e2⟩ := ownL_spec h4
        exact fun hm hle => ⟨l0, e1, e2, evOp_own e1 hr fun id hid => (ha _ _ hm (by omega) id (e2 id hid).1 (e2 id hid).2).symm⟩
      · rw [Bool.cond_eq_ite] at h
        split at h
        · rename_i hm
          obtain ⟨h1, h2⟩ := ih _ _ _ _ _ _ _ _ _ _ _ h hC
          refine ⟨h1, fun hj => h2 (next r _ hd (fun e => by rcases e with e | e <;> cases e) (fun _ => ⟨rfl, fun j hj _ _ => .inr ⟨hg, ?_⟩⟩) hj)⟩
          rw [zc4 hj]
          exact fun τ => memFree_any hr hm τ
        · obtain ⟨⟨h1, h3⟩, h2⟩ := ih _ _ _ _ _ _ _ _ _ _ _ h hC
          refine ⟨h1, fun hj => h2 (next r _ hd (fun e => by rcases e with e | e <;> cases e) (fun _ => ⟨rfl, fun j hj _ _ => .inr ⟨hg, ?_⟩⟩) hj)⟩
          rw [zc4 hj]
          exact h3
      · rename_i bs
        obtain ⟨⟨h1, h3, h4⟩, h2⟩ := ih _ _ _ _ _ _ _ _ _ _ _ h hC
        refine ⟨h1, fun hj => h2 (next r _ hd (fun e => by rcases e with e | e <;> cases e) (fun _ => ⟨rfl, fun j hj hc _ => .inr ⟨hg, ?_⟩⟩) hj)⟩
        rw [zc4 hj]
        rintro k (hk | ⟨b, hb, hk⟩)
        · rw [zR3 (by omega)]; rw [h3] at hr; exact hr
        · obtain ⟨τ, e1, e2⟩ := stabs_spec h4 b hb
          rw [stk_back e1 (by simp; omega)]; exact e2
  · rename_i hg
    rw [Bool.cond_eq_ite] at h
    split at h
    case isFalse => cases h
    rename_i hd
    split at h
    · obtain ⟨h1, h2⟩ := ih _ _ _ _ _ _ _ _ _ _ _ h hC
      exact ⟨h1, fun hj => h2 (next .u _ hd (fun _ => ⟨σ, rfl, fun _ _ _ _ _ _ _ => rfl, fun j hj => .inl ⟨by simp [isF, zc4 hj], SF.skip hg⟩⟩) (fun hne => absurd rfl hne.1) hj)⟩
    · cases h
    · rename_i hne hnf
      obtain ⟨h1, h2⟩ := ih _ _ _ _ _ _ _ _ _ _ _ h hC
      exact ⟨h1, fun hj => h2 (next .u _ hd (fun e => e.elim (fun e => absurd e hne) (fun e => absurd e hnf)) (fun _ => ⟨rfl, fun j hj _ _ => .inl ⟨hg, rfl⟩⟩) hj)⟩
  · cases h
theorem DW.run {T : TT} (hT : TOK P T) {id : Nat} {ops : List Oper} {es : List EK} {F0 : Fr} {σ0 : Store} {ex : List (Nat × List Nat)} {l : List Oper} {es' : List EK} {F : Fr} {Ss : List Store} {rs : List AV}
 (h : RunD (evD T n ops.toArray σ0 ex l es' F Ss rs True) fun l' es'' F' Ss' rs' => DW P n k0 T id ops es F0 σ0 ex Q l' es'' F' Ss' rs') : DW P n k0 T id ops es F0 σ0 ex Q l es' F Ss rs := by
 intro hp
 unfold RunD at h
 split at h
 · rename_i l' es'' F' Ss' rs' C he
   refine h.2 ?_
   have := (evD_past hT [] _ _ _ _ _ _ _ _ _ _ _ _ he h.1).2 (by simpa using hp)
   simpa using this
 · exact h.elim
theorem DW.runN {T : TT} (hT : TOK P T) (m : Nat) {id : Nat} {ops : List Oper} {es : List EK} {F0 : Fr} {σ0 : Store} {ex : List (Nat × List Nat)} {l : List Oper} {es' : List EK} {F : Fr} {Ss : List Store} {rs : List AV}
 (h : RunD (evD T n ops.toArray σ0 ex (l.take m) es' F Ss rs True) fun l' es'' F' Ss' rs' => l' = [] ∧ DW P n k0 T id ops es F0 σ0 ex Q (l.drop m) es'' F' Ss' rs') : DW P n k0 T id ops es F0 σ0 ex Q l es' F Ss rs := by
 intro hp
 unfold RunD at h
 split at h
 · rename_i l' es'' F' Ss' rs' C he
   obtain ⟨hC, rfl, h⟩ := h
   refine h ?_
   have := (evD_past hT (l.drop m) _ _ _ _ _ _ _ _ _ _ _ _ he hC).2 (by simpa [List.take_append_drop] using hp)
   simpa using this
 · exact h.elim
theorem DW.callS {T : TT} {id : Nat} {ops : List Oper} {es : List EK} {F0 : Fr} {σ0 : Store} {ex : List (Nat × List Nat)} {o : Oper} {l : List Oper} {es' : List EK} {F : Fr} {σ : Store} {Ss : List Store} {rs : List AV} {f : FuncId} {args : List AV} {r : AV} {σ' : Store}
 (hg : zS1 ops.toArray F o = some true) (hc : callee F o = some (f, args)) (hd : dstOk n o.dst = true) (hf : ACalls P f args σ fun r' s => r' = r ∧ s = σ') (ha : Agrs ex (Ss.length + 1) σ0.length σ σ') (h : DW P n k0 T id ops es F0 σ0 ex Q l es' (updO F o.dst r) (σ' :: σ :: Ss) (r :: rs)) :
 DW P n k0 T id ops es F0 σ0 ex Q (o :: l) (.eff :: es') F (σ :: Ss) rs := by
 rintro ⟨j, e1, e2, e3⟩
 have hk := zc4 e2
 exact h ⟨j + 1, (zu2 e1).2, (zu2 e2).2, e3.step (zu2 e1).1 hd (fun _ => ⟨σ', rfl, ha, .inl ⟨by simp [isF, hk], SF.call hg hc hf⟩⟩) (fun hE => by simp [isE, hk] at hE)⟩
theorem DW.call {T : TT} {id : Nat} {ops : List Oper} {es : List EK} {F0 : Fr} {σ0 : Store} {ex : List (Nat × List Nat)} {o : Oper} {l : List Oper} {es' : List EK} {F : Fr} {σ : Store} {Ss : List Store} {rs : List AV} {f : FuncId} {args : List AV} {r : AV}
 (hg : zS1 ops.toArray F o = some true) (hc : callee F o = some (f, args)) (hd : dstOk n o.dst = true) (hf : ACalls P f args σ fun r' s => r' = r ∧ s = σ) (h : DW P n k0 T id ops es F0 σ0 ex Q l es' (updO F o.dst r) (σ :: σ :: Ss) (r :: rs)) :
 DW P n k0 T id ops es F0 σ0 ex Q (o :: l) (.eff :: es') F (σ :: Ss) rs := DW.callS hg hc hd hf (fun _ _ _ _ _ _ _ => rfl) h
theorem DW.fin {T : TT} (hT : TOK P T) {id : Nat} {ops : List Oper} {es : List EK} {F0 : Fr} {σ0 : Store} {ex : List (Nat × List Nat)} (hchk : chkD ops es ex = true) {es' : List EK} {F : Fr} {σ : Store} {Ss : List Store} {rs : List AV} (hl : rs.length = ops.length) (h : Q .normal F σ) :
 DW P n k0 T id ops es F0 σ0 ex Q [] es' F (σ :: Ss) rs := by
 rintro ⟨j, e1, e2, e3⟩
 have hj : j = ops.length := by rw [← e3.len, hl]
 subst hj
 simp only [chkD, Bool.and_eq_true] at hchk
 have hlS := e3.lenS
 simp only [lC] at hlS
 have h0 : frs ops rs F0 0 = F0 := by simp [frs, foldU]
 have := awp_drawn (P := P) (n := n) (k0 := k0) (Q := Q) (id := id) (ops := ops) (eff := isE es) (flt := isF es) (F := fun j => frs ops rs F0 j) (r := nth rs) (S := stk (σ :: Ss)) hT hchk.1 (fun j o ho => ?_) (fun o ho t ht => ?_) (fun j o ho he => ?_) (fun j o ho hf => ?_) (fun j o ho he k hk hm => ?_) ?_
 · rw [e3.first, h0] at this; exact this
 · -- the frames
   have hjl : j < ops.length := (List.getElem?_eq_some_iff.1 ho).1
   show foldU (ops.take (j + 1)) (rs.reverse.take (j + 1)) F0 = updO (foldU (ops.take j) (rs.reverse.take j) F0) o.dst (nth rs j)
   have hr : rs.reverse[j]? = some (nth rs j) := by
    unfold nth
    rw [gG, List.getElem?_eq_getElem (by simp; omega)]; rfl
   rw [take_snoc' ho, take_snoc' hr, foldU_snoc _ _ _ _ _ (by simp; omega)]
 · obtain ⟨i, hi, rfl⟩ := List.getElem_of_mem ho
   exact zb3 (e3.dst i _ hi (List.getElem?_eq_getElem hi)) t ht
 · simp only [hard, Bool.and_eq_true, Bool.not_eq_true'] at he
   rcases e3.eff j o (List.getElem?_eq_some_iff.1 ho).1 ho he.1 with ⟨_, h1⟩ | ⟨h1, _⟩
   · exact h1
   · rw [he.2] at h1; cases h1
 · rcases e3.eff j o (List.getElem?_eq_some_iff.1 ho).1 ho (chk_flt hchk.1 ho hf) with ⟨h1, _⟩ | ⟨_, h1⟩
   · rw [hf] at h1; cases h1
   · exact h1
 · rcases e3.pure j o (List.getElem?_eq_some_iff.1 ho).1 ho he with ⟨h1, h2⟩ | ⟨h1, h2⟩
   · rw [h2]; exact SF.skip h1
   · refine SF.op hT h1 ?_
     have h3 := List.all_eq_true.1 hchk.2 j (by simpa using (List.getElem?_eq_some_iff.1 ho).1)
     generalize kOf es j = q at h2 h3
     cases q with
     | eff => exact h2 _
     | flt => exact h2 _
     | any => exact h2 _
     | own m x =>
      simp only [Bool.and_eq_true] at h3
      obtain ⟨l0, g1, g2, g3⟩ := h2 (inEx_mem h3.1.1) (Nat.le_of_ble_eq_true h3.1.2)
      have hkl : k ≤ cnt (isE es) ops.length := hk
      have h4 := List.all_eq_true.1 h3.2 k (by simp; omega)
      simp only [hm, Bool.not_true, Bool.false_or] at h4
      exact evOp_own g1 g3 fun id hid => e3.agree k (by simp; omega) m x (inEx_mem h3.1.1) (Nat.le_of_ble_eq_true h4) id (g2 id hid).1 (g2 id hid).2
     | «at» bs =>
      have h4 := List.all_eq_true.1 h3 k (by simp; omega)
      simp only [hm, Bool.not_true, Bool.false_or, Bool.or_eq_true, beq_iff_eq, List.any_eq_true] at h4
      exact h2 k h4
 · show Q .normal (frs ops rs F0 ops.length) (stk (σ :: Ss) (cnt (isE es) ops.length))
   rw [zR3 (by omega), ← e3.frame]; exact h
end
end AM
end Go.Proofs.YtaddlmlpeghonaaDoor
end
section
namespace Go.Proofs.YtaddlmlpeghonaaDoor
namespace AM
open Go.RowKit
theorem Store.at_hd {x : Store} {v v' : Nat} {cs : List AV} : Store.at (.cells v cs :: x) 0 v' = if v = v' then some cs else none := rfl
theorem beq_tr (b : Bool) : (b == true) = b := by cases b <;> rfl
theorem beq_fa (b : Bool) : (b == false) = !b := by cases b <;> rfl
theorem SR.cell {E : Env} {σ : Store} (hS : SR E σ) {id ver : Nat} {cs : List AV} (hcs : Store.at σ id ver = some cs) {i : Nat} (hi : i < cs.length) {x : AV} (hc : ∀ v, VR E (gc cs i) v → VR E x v) :
 SR E (σ.set id (.cells ver (cs.set i x))) := by
 have hlt := Store.at_lt hcs
 refine ⟨by simpa using hS.len, fun j => ?_, hS.inj, hS.blk, hS.stb, hS.glb⟩
 by_cases hj : j = id
 · subst hj
   rw [List.getElem?_set_self hlt]
   have h1 := hS.obj j
   rw [Store.at_some hcs] at h1
   rcases h1 with ⟨b, e1, e2⟩ | ⟨e1, e2⟩
   · refine .inl ⟨b, e1, ?_⟩
     obtain ⟨conc, t', fr, a1, a2, a3, a4⟩ := e2.blk
     refine ⟨conc, t', fr, a1, a2, by simpa using a3, fun k hk => ?_⟩
     simp only [List.length_set] at hk
     rw [gc_set _ _ _ _ hi]
     by_cases hki : k = i
     · subst hki
       rw [if_pos rfl]
       exact hc _ (a4 k hk)
     · rw [if_neg hki]; exact a4 k hk
   · subst e1; simp at hi
 · rw [List.getElem?_set_ne (fun e => hj e.symm)]
   exact hS.obj j
end AM
end Go.Proofs.YtaddlmlpeghonaaDoor
end
section
namespace Go.Proofs.YtaddlmlpeghonaaDoor
namespace AM
open Go.RowKit Go.ChangeShapes Go.WideShapes Go.Deep
def Env.start (w : World) : Env := { w := w, st := fun b => b < w.heap.size, loc := fun _ => none, n := 0 }
theorem SR.start (w : World) (hg : Glb w fun b => b < w.heap.size) : SR (Env.start w) [] where
 len := rfl
 obj := fun id => by simp [ObjR, Env.start]
 inj := fun _ _ _ _ _ h => by simp [Env.start] at h
 blk := fun _ _ _ h => by simp [Env.start] at h
 stb := fun b hb => hb
 glb := hg
theorem cell_lt {w : World} {a : Addr} {v : Value} (h : w.cell? a = some v) : a.block < w.heap.size := by
 unfold World.cell? at h
 rcases Nat.lt_or_ge a.block w.heap.size with h1 | h1
 · exact h1
 · rw [Array.getElem?_eq_none h1] at h; simp at h
theorem add_spot {a : Addr} (h : a.spot = none) (n : Nat) : a.add n = ⟨a.block, a.off + n, none⟩ := by
 obtain ⟨b, o, s⟩ := a
 simp only at h; subst h
 unfold Addr.add
 split
 · rename_i e; subst e; rfl
 · rfl
section
variable {H : Type} {enc : TypeId × Value → H} {P : Program} {w : World} {base : Nat} {spare : Nat → Bool} {held : Bool}
def Opens (enc : TypeId × Value → H) (P : Program) (w : World) (base : Nat) (spare : Nat → Bool) (held : Bool) (t : TypeId) (A : List AV → Prop) : Prop :=
 ∀ n cs y, DataW.trod enc P w base spare held n t cs = some y → ∃ avs, avs.length = cs.length ∧ A avs ∧ ∀ i, i < avs.length → VR (Env.start w) (gc avs i) (cs.getD i undef)
theorem Opens.mono {t : TypeId} {A B : List AV → Prop} (h : Opens enc P w base spare held t A) (k : ∀ l, A l → B l) : Opens enc P w base spare held t B := fun n cs y hy => by
 obtain ⟨avs, h1, h2, h3⟩ := h n cs y hy
 exact ⟨avs, h1, k _ h2, h3⟩
theorem opens_int {t : TypeId} {k : IntKind} (ht : P.underlying t = some (.int k)) : Opens enc P w base spare held t fun l => ∃ n, l = [.int k n] ∧ (Lit.int k n).wf = true := by
 intro n cs y hy
 obtain ⟨m, rfl, _, hw⟩ := DataW.trod_int ht hy
 exact ⟨[.int k m], rfl, ⟨m, rfl, hw⟩, fun i hi => by simp at hi; subst hi; exact .int _ _⟩
theorem gc_flat {sz : Nat} : ∀ {es : List (List AV)} (_ : ∀ x ∈ es, x.length = sz) (i j : Nat) (_ : j < sz) (hi : i < es.length), gc es.flatten (i * sz + j) = gc (es[i]'hi) j := by
 intro es
 induction es with
 | nil => intro _ i j _ hi; simp at hi
 | cons x es ih =>
  intro h i j hj hi
  have hx := h x (by simp)
  cases i with
  | zero =>
   simp only [List.flatten_cons, Nat.zero_mul, nZ, List.getElem_cons_zero]
   simp [gc, gL (show j < x.length by omega)]
  | succ i =>
   have := ih (fun y hy => h y (by simp [hy])) i j hj (by simpa using hi)
   have e : (i + 1) * sz + j = x.length + (i * sz + j) := by rw [Nat.succ_mul, hx]; omega
   simp only [List.flatten_cons, List.getElem_cons_succ]
   rw [← this, e]
   simp only [gc, gG, gR (Nat.le_add_right _ _), Nat.add_sub_cancel_left]
theorem length_flat {sz : Nat} : ∀ {es : List (List AV)} (_ : ∀ x ∈ es, x.length = sz), es.flatten.length = es.length * sz := by
 intro es
 induction es with
 | nil => intro _; simp
 | cons x es ih => intro h; simp only [List.flatten_cons, lP, ih fun y hy => h y (by simp [hy]), h x (by simp), lC]; rw [Nat.succ_mul]; omega
end
theorem walk_of {P : Program} {f : FuncId} {avs : List AV} {x : AV} {v : Value} (h : ACalls P f avs [] fun r σ' => r = x) {w : World} {vs : Array Value} (hg : Glb w fun b => b < w.heap.size) (hvs : ListR (Env.start w) avs vs.toList) (hx : ∀ E u, VR E x u → u = v) :
 Calls P f vs w fun e w' => e = .returned v ∧ Below w.heap.size w w' := by
 refine (h.2 (Env.start w) vs (SR.start w hg) hvs).mono ?_
 rintro e w' ⟨u, r, σ', E', rfl, rfl, h3, _, h5, rfl⟩
 refine ⟨by rw [hx _ _ h3], h5.os, h5.tape, h5.output, h5.size, fun k hk => (h5.st k hk).2⟩
theorem listR_one {E : Env} {a : AV} {v : Value} (h : VR E a v) : ListR E [a] [v] := ⟨rfl, fun i hi => by simp at hi; subst hi; exact h⟩
theorem listR_cons {E : Env} {a : AV} {v : Value} {l : List AV} {m : List Value} (h : VR E a v) (k : ListR E l m) : ListR E (a :: l) (v :: m) := by
 refine ⟨by simp [k.1], fun i hi => ?_⟩
 cases i with
 | zero => exact h
 | succ i => exact k.2 i (by simpa using hi)
theorem VR.true_of {E : Env} {u : Value} (h : VR E (.bool true) u) : u = .bool true := by cases h; rfl
end AM
end Go.Proofs.YtaddlmlpeghonaaDoor
end
section
namespace Go.Proofs.YtaddlmlpeghonaaDoor
namespace AM
open Go.RowKit
theorem listR_canon {E E' : Env} {s : Bool} (hw : E'.w = E.w) (hst : ∀ b, E.st b → E'.st b) {l : List AV} {vs : List Value} (hc : canonL s l = true) (h : ListR E l vs) : ListR E' l vs :=
 ⟨h.1, fun i hi => VR.canonRenL hw hst l hc i hi (h.2 i hi)⟩
theorem ACalls.pureAt {P : Program} {f : FuncId} {args : List AV} {x : AV} (h : ACalls P f args [] fun r _ => r = x) (ha : canonL false args = true) (hx : x.canon false = true) (σ : Store) :
 ACalls P f args σ fun r σ' => r = x ∧ σ' = σ := by
 refine ⟨h.1, fun E vs hS hl => ?_⟩
 let Es : Env := { w := E.w, st := E.st, loc := fun _ => none, n := 0 }
 have hSs : SR Es [] := ⟨rfl, (fun id => by simp [ObjR, Es]), (fun id id' v v' b h => by cases h), (fun id v b h => by cases h), hS.stb, hS.glb⟩
 refine (h.2 Es vs hSs (listR_canon (E := E) (E' := Es) rfl (fun _ h => h) ha hl)).mono ?_
 rintro e w ⟨v, r, σ', E1, rfl, rfl, h3, h4, h5, rfl⟩
 let E2 : Env := { w := E1.w, st := E1.st, loc := E.loc, n := E.n }
 have hown : ∀ b, b < E.w.heap.size → E1.w.heap[b]? = E.w.heap[b]? := fun b hb => h5.old b hb fun id v h => by cases h
 have hext : Ext E E2 := {
  os := h5.os
  tape := h5.tape
  output := h5.output
  size := h5.size
  shape := h5.shape
  st := fun b hb => h5.st b hb
  n := nR _
  loc := fun _ _ v o h => ⟨v, o, h, nR _, fun _ => rfl⟩
  old := fun b hb _ => hown b hb
  own := fun id v _ h _ => ⟨id, v, h⟩
  stn := fun b hb => by
   rcases h5.stn b hb with h | h | ⟨_, _, h⟩
   · exact .inl h
   · exact .inr (.inl h)
   · cases h }
 refine ⟨v, r, σ, E2, rfl, rfl, ?_, ?_, hext, rfl, rfl⟩
 · exact VR.canonRen (E := E1) (E' := E2) rfl (fun _ h => h) _ hx h3
 · refine ⟨hS.len, fun id => (hS.obj id).ext hext rfl fun v b hb => hown b (hS.blk id v b hb).1, hS.inj, fun id v b hb => ?_, fun b hb => h4.stb b hb, h4.glb⟩
   refine ⟨Nat.lt_of_lt_of_le (hS.blk id v b hb).1 h5.size, fun hs => ?_⟩
   rcases h5.stn b hs with h | h | ⟨_, _, h⟩
   · exact (hS.blk id v b hb).2 h
   · have := (hS.blk id v b hb).1; exact Nat.lt_irrefl _ (Nat.lt_of_lt_of_le this h)
   · cases h
mutual
theorem VR.flatRen {E E' : Env} : ∀ (a : AV) {v : Value}, a.flat = true → VR E a v → VR E' a v
 | .u, _, _, h => .u _
 | .bool _, _, _, h => by cases h; exact .bool _
 | .int _ _, _, _, h => by cases h; exact .int _ _
 | .str _, _, _, h => by cases h with | str _ s h => exact .str _ _ h
 | .nilp, _, _, h => by cases h; exact .nilp
 | .nilm, _, _, h => by cases h; exact .nilm
 | .nilF, _, _, h => by cases h; exact .nilF
 | .nilI, _, _, h => by cases h; exact .nilI
 | .gp _, _, _, h => by cases h; exact .gp _
 | .agg cs, _, hc, h => by
  cases h with | agg _ vs hl hv => exact .agg _ vs hl fun i hi => VR.flatRenL cs (by simpa [AV.flat] using hc) i hi (hv i hi)
 | .tup cs, _, hc, h => by
  cases h with | tup _ vs hl hv => exact .tup _ vs hl fun i hi => VR.flatRenL cs (by simpa [AV.flat] using hc) i hi (hv i hi)
 | .ifc t a, _, hc, h => by
  cases h with | ifc _ _ v h => exact .ifc t a v (VR.flatRen a (by simpa [AV.flat] using hc) h)
 | .dp _ _, _, hc, _ => by simp [AV.flat] at hc
 | .ds _ _ _ _, _, hc, _ => by simp [AV.flat] at hc
 | .fn _ _ _, _, hc, _ => by simp [AV.flat] at hc
 | .op _ _ _, _, hc, _ => by simp [AV.flat] at hc
 | .os _ _ _ _ _ _ _, _, hc, _ => by simp [AV.flat] at hc
 | .mp _, _, hc, _ => by simp [AV.flat] at hc
 | .it _, _, hc, _ => by simp [AV.flat] at hc
theorem VR.flatRenL {E E' : Env} : ∀ (cs : List AV) (hc : flatL cs = true) (i : Nat) (hi : i < cs.length) {v : Value}, VR E (gc cs i) v → VR E' (gc cs i) v
 | [], _, _, hi, _, _ => absurd hi (by simp)
 | a :: cs, hc, 0, _, _, h => by
  simp only [flatL, Bool.and_eq_true] at hc
  exact VR.flatRen a hc.1 h
 | a :: cs, hc, i + 1, hi, _, h => by
  simp only [flatL, Bool.and_eq_true] at hc
  have e : gc (a :: cs) (i + 1) = gc cs i := by simp [gc]
  rw [e] at h ⊢
  exact VR.flatRenL cs hc.2 i (by simpa using hi) h
end
theorem ACalls.lend {P : Program} {f : FuncId} {args : List AV} {x : AV} (h : ACalls P f args [] fun r _ => r = x) (hx : x.flat = true) {σ : Store} {args' : List AV} (ls : Bool) (g : Nat) (ha : args'.map (tell σ [] ls g) = args) :
 ACalls P f args' σ fun r σ' => r = x ∧ σ' = σ := by
 refine ⟨h.1, fun E vs hS hl => ?_⟩
 have hSs : SR (E.ren []) [] := hS.tell (keep := []) List.nodup_nil (fun _ h => by cases h) ls g
 have hls : ListR (E.ren []) args vs.toList := by
  rw [← ha]
  refine ⟨by simpa using hl.1, fun i hi => ?_⟩
  rw [lM] at hi
  rw [gc_map' hi]; exact VR.tell hS g _ (hl.2 i hi)
 refine (h.2 _ vs hSs hls).mono ?_
 rintro e w ⟨v, r, σ', E1, rfl, rfl, h3, h4, h5, rfl⟩
 let E2 : Env := { w := E1.w, st := E.st, loc := E.loc, n := E.n }
 have hown : ∀ b, b < E.w.heap.size → E1.w.heap[b]? = E.w.heap[b]? := fun b hb => h5.old b hb fun id v h => by simp [Env.ren] at h
 have hext : Ext E E2 := {
  os := h5.os
  tape := h5.tape
  output := h5.output
  size := h5.size
  shape := h5.shape
  st := fun b hb => ⟨hb, hown b (hS.stb b hb)⟩
  n := nR _
  loc := fun _ _ v o h => ⟨v, o, h, nR _, fun _ => rfl⟩
  old := fun b hb _ => hown b hb
  own := fun id v _ h _ => ⟨id, v, h⟩
  stn := fun b hb => .inl hb }
 refine ⟨v, r, σ, E2, rfl, rfl, VR.flatRen _ hx h3, ?_, hext, rfl, rfl⟩
 exact ⟨hS.len, fun id => (hS.obj id).ext hext rfl fun v b hb => hown b (hS.blk id v b hb).1, hS.inj, fun id v b hb => ⟨Nat.lt_of_lt_of_le (hS.blk id v b hb).1 h5.size, (hS.blk id v b hb).2⟩, fun b hb => Nat.lt_of_lt_of_le (hS.stb b hb) h5.size, hS.glb.mono hext.st⟩
mutual
def AV.ren (g : Nat → Nat) : AV → AV
 | .u => .u
 | .bool b => .bool b
 | .int k n => .int k n
 | .str s => .str s
 | .nilp => .nilp
 | .nilm => .nilm
 | .nilF => .nilF
 | .nilI => .nilI
 | .gp n => .gp n
 | .agg cs => .agg (renL g cs)
 | .tup cs => .tup (renL g cs)
 | .op id ver off => .op (g id) ver off
 | .os nl sz id ver off len t => .os nl sz (g id) ver off len t
 | .dp cs off => .dp (renL g cs) off
 | .ds nl cs len t => .ds nl (renL g cs) len t
 | .fn f a b => .fn f (renL g a) (renL g b)
 | .ifc t a => .ifc t (a.ren g)
 | .mp id => .mp (g id)
 | .it id => .it (g id)
def renL (g : Nat → Nat) : List AV → List AV
 | [] => []
 | a :: l => a.ren g :: renL g l
end
theorem renL_map (g : Nat → Nat) (l : List AV) : renL g l = l.map (AV.ren g) := by
 induction l with
 | nil => rfl
 | cons a l ih => simp [renL, ih]
theorem zE (g : Nat → Nat) (l : List AV) : (renL g l).length = l.length := by rw [renL_map]; simp
theorem zO1 (g : Nat → Nat) {l : List AV} {i : Nat} (h : i < l.length) : gc (renL g l) i = (gc l i).ren g := by
 rw [renL_map, gc_map' h]
mutual
theorem ren_canon (g : Nat → Nat) {s : Bool} : ∀ (a : AV), a.canon s = true → a.ren g = a
 | .u, _ | .bool _, _ | .int _ _, _ | .str _, _ | .nilp, _ | .nilm, _ | .nilF, _ | .nilI, _ | .gp _, _ => rfl
 | .agg cs, h => by simp only [AV.canon] at h; simp only [AV.ren, renL_canon g cs h]
 | .tup cs, h => by simp only [AV.canon] at h; simp only [AV.ren, renL_canon g cs h]
 | .dp cs _, h => by simp only [AV.canon] at h; simp only [AV.ren, renL_canon g cs h]
 | .ds nl cs _ t, h => by simp only [AV.canon, Bool.and_eq_true] at h; simp only [AV.ren, renL_canon g cs h.2]
 | .fn _ a b, h => by simp only [AV.canon, Bool.and_eq_true] at h; simp only [AV.ren, renL_canon g a h.1, renL_canon g b h.2]
 | .ifc _ a, h => by simp only [AV.canon] at h; simp only [AV.ren, ren_canon g a h]
 | .op _ _ _, h | .os _ _ _ _ _ _ _, h | .mp _, h | .it _, h => by simp [AV.canon] at h
theorem renL_canon (g : Nat → Nat) {s : Bool} : ∀ (l : List AV), canonL s l = true → renL g l = l
 | [], _ => rfl
 | a :: l, h => by
  simp only [canonL, Bool.and_eq_true] at h
  simp only [renL, ren_canon g a h.1, renL_canon g l h.2]
end
theorem VR.renum {E E' : Env} {g : Nat → Nat} (hw : E'.w = E.w) (hst : ∀ b, E.st b → E'.st b) (hok : ∀ id ver, E.ok id ver → E'.ok (g id) ver) (hloc : ∀ id, id < E.n → ∀ p, E'.loc (g id) = some p → E.loc id = some p) :
 ∀ {a : AV} {v : Value}, VR E a v → VR E' (a.ren g) v := by
 intro a v h
 have row : ∀ {b o m : Nat} {vs : Nat → Value}, Row E.w E.st b o m vs → Row E'.w E'.st b o m vs := fun h => by
  rcases h with h | ⟨h1, h2⟩
  · exact .inl h
  · exact .inr ⟨hst _ h1, by rw [hw]; exact h2⟩
 induction h with
 | u v => exact .u _
 | bool b => exact .bool _
 | int k n => exact .int _ _
 | str l s h => exact .str _ _ h
 | agg cs vs hl _ ih => exact .agg _ vs (by rw [zE]; exact hl) fun i hi => by rw [zE] at hi; rw [zO1 g hi]; exact ih i hi
 | tup cs vs hl _ ih => exact .tup _ vs (by rw [zE]; exact hl) fun i hi => by rw [zE] at hi; rw [zO1 g hi]; exact ih i hi
 | nilp => exact .nilp
 | op id ver off a hk h => exact .op _ _ _ _ (hok _ _ hk) fun b hb => h b (hloc id hk.1 _ hb)
 | dp cells off b o vs hr _ ih => exact .dp _ off b o vs (by rw [zE]; exact row hr) fun i hi => by rw [zE] at hi; rw [zO1 g hi]; exact ih i hi
 | dsn t => exact .dsn _
 | ds nl cells len t a cap vs ha hr _ hc ht hB ih =>
  exact .ds _ _ _ _ a cap vs (by rcases ha with h | h; exact .inl (by rw [h]; rfl); exact .inr h) (by rw [zE]; exact row hr) (fun i hi => by rw [zE] at hi; rw [zO1 g hi]; exact ih i hi) hc ht hB
 | osn sz id ver off t a hk h => exact .osn _ _ _ _ _ _ (hok _ _ hk) fun ob hb => h ob (hloc id hk.1 _ hb)
 | os nl sz id ver off len t a cap hk hc ht hB h =>
  refine .os _ _ _ _ _ _ _ a cap (hok _ _ hk) hc ht hB fun ob hb => ?_
  obtain ⟨b, e1, e2, t', m, hs, hm⟩ := h ob (hloc id hk.1 _ hb)
  exact ⟨b, e1, e2, t', m, by rw [hw]; exact hs, hm⟩
 | mp id b hk h => exact .mp _ b (hok _ _ hk) fun ob hb => h ob (hloc id hk.1 _ hb)
 | nilm => exact .nilm
 | fn f first cap vf vc hf hc _ _ i1 i2 =>
  exact .fn f _ _ vf vc (by rw [zE]; exact hf) (by rw [zE]; exact hc) (fun i hi => by rw [zE] at hi; rw [zO1 g hi]; exact i1 i hi) (fun i hi => by rw [zE] at hi; rw [zO1 g hi]; exact i2 i hi)
 | nilF => exact .nilF
 | ifc t a v _ ih => exact .ifc t _ v ih
 | nilI => exact .nilI
 | it id b hk h => exact .it _ b (hok _ _ hk) fun ob hb => h ob (hloc id hk.1 _ hb)
 | gp n => exact .gp _
theorem VR.unren {E E' : Env} {g : Nat → Nat} (hw : E.w = E'.w) (hst : ∀ b, E'.st b → E.st b) (hok : ∀ id ver, E'.ok (g id) ver → E.ok id ver) (hloc : ∀ id, id < E.n → ∀ p, E.loc id = some p → E'.loc (g id) = some p) :
 ∀ {x : AV} {v : Value}, VR E' x v → ∀ a : AV, x = a.ren g → VR E a v := by
 have row : ∀ {b o m : Nat} {vs : Nat → Value}, Row E'.w E'.st b o m vs → Row E.w E.st b o m vs := fun h => by
  rcases h with h | ⟨h1, h2⟩
  · exact .inl h
  · exact .inr ⟨hst _ h1, by rw [hw]; exact h2⟩
 intro x v h
 induction h with
 | u v => intro a e; cases a <;> simp only [AV.ren, reduceCtorEq] at e; exact .u _
 | bool b => intro a e; cases a <;> simp only [AV.ren, reduceCtorEq, AV.bool.injEq] at e; subst e; exact .bool _
 | int k n => intro a e; cases a <;> simp only [AV.ren, reduceCtorEq, AV.int.injEq] at e; obtain ⟨rfl, rfl⟩ := e; exact .int _ _
 | str l s h => intro a e; cases a <;> simp only [AV.ren, reduceCtorEq, AV.str.injEq] at e; subst e; exact .str _ _ h
 | agg cs vs hl _ ih =>
  intro a e; cases a <;> simp only [AV.ren, reduceCtorEq, AV.agg.injEq] at e
  subst e
  rw [zE] at hl
  exact .agg _ vs hl fun i hi => ih i (by rw [zE]; exact hi) _ (zO1 g hi)
 | tup cs vs hl _ ih =>
  intro a e; cases a <;> simp only [AV.ren, reduceCtorEq, AV.tup.injEq] at e
  subst e
  rw [zE] at hl
  exact .tup _ vs hl fun i hi => ih i (by rw [zE]; exact hi) _ (zO1 g hi)
 | nilp => intro a e; cases a <;> simp only [AV.ren, reduceCtorEq] at e; exact .nilp
 | op id ver off ad hk h =>
  intro a e; cases a <;> simp only [AV.ren, reduceCtorEq, AV.op.injEq] at e
  obtain ⟨rfl, rfl, rfl⟩ := e
  have := hok _ _ hk
  exact .op _ _ _ _ this fun b hb => h b (hloc _ this.1 _ hb)
 | dp cells off b o vs hr _ ih =>
  intro a e; cases a <;> simp only [AV.ren, reduceCtorEq, AV.dp.injEq] at e
  obtain ⟨rfl, rfl⟩ := e
  rw [zE] at hr
  exact .dp _ _ b o vs (row hr) fun i hi => ih i (by rw [zE]; exact hi) _ (zO1 g hi)
 | dsn t =>
  intro a e; cases a <;> simp only [AV.ren, reduceCtorEq, AV.ds.injEq] at e
  obtain ⟨rfl, e2, rfl, rfl⟩ := e
  rename_i cs
  have : cs = [] := lI.1 (by rw [← zE g, ← e2]; rfl)
  subst this; exact .dsn _
 | ds nl cells len t ad cap vs ha hr _ hc ht hB ih =>
  intro a e; cases a <;> simp only [AV.ren, reduceCtorEq, AV.ds.injEq] at e
  obtain ⟨rfl, rfl, rfl, rfl⟩ := e
  rw [zE] at hr
  exact .ds _ _ _ _ ad cap vs (by rcases ha with h | h; exact .inl (lI.1 (by rw [← zE g, h]; rfl)); exact .inr h) (row hr) (fun i hi => ih i (by rw [zE]; exact hi) _ (zO1 g hi)) hc ht hB
 | osn sz id ver off t ad hk h =>
  intro a e; cases a <;> simp only [AV.ren, reduceCtorEq, AV.os.injEq] at e
  obtain ⟨rfl, rfl, rfl, rfl, rfl, rfl, rfl⟩ := e
  have := hok _ _ hk
  exact .osn _ _ _ _ _ _ this fun ob hb => h ob (hloc _ this.1 _ hb)
 | os nl sz id ver off len t ad cap hk hc ht hB h =>
  intro a e; cases a <;> simp only [AV.ren, reduceCtorEq, AV.os.injEq] at e
  obtain ⟨rfl, rfl, rfl, rfl, rfl, rfl, rfl⟩ := e
  have := hok _ _ hk
  refine .os _ _ _ _ _ _ _ ad cap this hc ht hB fun ob hb => ?_
  obtain ⟨b, e1, e2, t', m, hs, hm⟩ := h ob (hloc _ this.1 _ hb)
  exact ⟨b, e1, e2, t', m, by rw [hw]; exact hs, hm⟩
 | mp id b hk h =>
  intro a e; cases a <;> simp only [AV.ren, reduceCtorEq, AV.mp.injEq] at e
  subst e
  have := hok _ _ hk
  exact .mp _ b this fun ob hb => h ob (hloc _ this.1 _ hb)
 | nilm => intro a e; cases a <;> simp only [AV.ren, reduceCtorEq] at e; exact .nilm
 | fn f first cap vf vc hf hc _ _ i1 i2 =>
  intro a e; cases a <;> simp only [AV.ren, reduceCtorEq, AV.fn.injEq] at e
  obtain ⟨rfl, rfl, rfl⟩ := e
  rw [zE] at hf hc
  exact .fn _ _ _ vf vc hf hc (fun i hi => i1 i (by rw [zE]; exact hi) _ (zO1 g hi)) (fun i hi => i2 i (by rw [zE]; exact hi) _ (zO1 g hi))
 | nilF => intro a e; cases a <;> simp only [AV.ren, reduceCtorEq] at e; exact .nilF
 | ifc t x v _ ih =>
  intro a e; cases a <;> simp only [AV.ren, reduceCtorEq, AV.ifc.injEq] at e
  obtain ⟨rfl, e⟩ := e
  exact .ifc _ _ v (ih _ e)
 | nilI => intro a e; cases a <;> simp only [AV.ren, reduceCtorEq] at e; exact .nilI
 | it id b hk h =>
  intro a e; cases a <;> simp only [AV.ren, reduceCtorEq, AV.it.injEq] at e
  subst e
  have := hok _ _ hk
  exact .it _ b this fun ob hb => h ob (hloc _ this.1 _ hb)
 | gp n => intro a e; cases a <;> simp only [AV.ren, reduceCtorEq, AV.gp.injEq] at e; subst e; exact .gp _
def renO (g : Nat → Nat) : AObj → AObj
 | .cells ver cs => .cells ver (renL g cs)
 | .map es => .map (es.map fun e => (e.1.ren g, e.2.ren g))
 | .iter s p => .iter s p
 | .dead => .dead
def zJ5 (ids : List Nat) (base : Nat) (i : Nat) : Nat := (ids[i]?).getD (base + (i - ids.length))
def zJ2 (g : Nat → Nat) : List Nat → Store → Store → Store
 | id :: ids, o :: l, σ => zJ2 g ids l (σ.set id (renO g o))
 | _, l, σ => σ ++ l.map (renO g)
theorem putAll_spec (g : Nat → Nat) : ∀ (ids : List Nat) (l σ : Store), ids.length ≤ l.length → ids.Nodup → (∀ id ∈ ids, id < σ.length) →
 (zJ2 g ids l σ).length = σ.length + (l.length - ids.length) ∧ (∀ (i id : Nat), ids[i]? = some id → (zJ2 g ids l σ)[id]? = (l[i]?).map (renO g)) ∧
  (∀ (id : Nat), id < σ.length → id ∉ ids → (zJ2 g ids l σ)[id]? = σ[id]?) ∧ (∀ (j : Nat), (zJ2 g ids l σ)[σ.length + j]? = (l[ids.length + j]?).map (renO g)) := by
 intro ids
 induction ids with
 | nil =>
  intro l σ _ _ _
  have e : zJ2 g [] l σ = σ ++ l.map (renO g) := by cases l <;> rfl
  rw [e]
  refine ⟨by simp, fun i id h => by simp at h, fun id h _ => by rw [gL h], fun j => ?_⟩
  rw [gR (by omega)]
  simp
 | cons x ids ih =>
  intro l σ hl hn hlt
  cases l with
  | nil => simp at hl
  | cons o l =>
   obtain ⟨hn1, hn2⟩ := List.nodup_cons.1 hn
   have hx := hlt x (by simp)
   obtain ⟨h1, h2, h3, h4⟩ := ih l (σ.set x (renO g o)) (by simpa using hl) hn2 (fun id hid => by simpa using hlt id (by simp [hid]))
   simp only [zJ2]
   simp only [List.length_set] at h1 h3 h4
   refine ⟨by simp only [lC]; omega, fun i id h => ?_, fun id h hm => ?_, fun j => ?_⟩
   · cases i with
     | zero =>
      simp only [List.getElem?_cons_zero, sI] at h
      subst h
      rw [h3 x hx hn1, List.getElem?_set_self hx]; simp
     | succ i =>
      rw [List.getElem?_cons_succ] at h
      rw [h2 i id h]; simp
   · rw [h3 id h (fun e => hm (by simp [e])), List.getElem?_set_ne (fun e => hm (by simp [e]))]
   · rw [h4 j]
     have : (x :: ids).length + j = (ids.length + j) + 1 := by simp; omega
     rw [this, List.getElem?_cons_succ]
theorem ObjR.renum {E E' : Env} {g : Nat → Nat} (hw : E'.w = E.w) (hst : ∀ b, E.st b → E'.st b) (hok : ∀ id ver, E.ok id ver → E'.ok (g id) ver) (hloc : ∀ id, id < E.n → ∀ p, E'.loc (g id) = some p → E.loc id = some p)
 {i : Nat} {o : AObj} (hl : E'.loc (g i) = E.loc i) (h : ObjR E i (some o)) : ObjR E' (g i) (some (renO g o)) := by
 cases o with
 | cells ver cs =>
  rcases h with ⟨b, h1, h2⟩ | ⟨h1, h2⟩
  · refine .inl ⟨b, hl.trans h1, ?_⟩
    obtain ⟨conc, t, fr, a1, a2, a3, a4⟩ := h2.blk
    exact ⟨conc, t, fr, by rw [hw]; exact a1, a2, by rw [zE]; exact a3, fun j hj => by rw [zE] at hj; rw [zO1 g hj]; exact VR.renum hw hst hok hloc (a4 j hj)⟩
  · exact .inr ⟨by rw [h1]; rfl, hl.trans h2⟩
 | map es =>
  obtain ⟨b, ents, clock, h1, h2, h3, h4⟩ := h
  refine ⟨b, ents, clock, hl.trans h1, by rw [hw]; exact h2, by rw [lM]; exact h3, fun j h h' => ?_⟩
  rw [lM] at h
  simp only [List.getElem_map]
  exact ⟨VR.renum hw hst hok hloc (h4 j h h').1, VR.renum hw hst hok hloc (h4 j h h').2⟩
 | iter s p => obtain ⟨b, h1, h2⟩ := h; exact ⟨b, hl.trans h1, by rw [hw]; exact h2⟩
 | dead => exact hl.trans h
theorem ObjR.unren {E E' : Env} {g : Nat → Nat} (hw : E.w = E'.w) (hst : ∀ b, E'.st b → E.st b) (hok : ∀ id ver, E'.ok (g id) ver → E.ok id ver) (hloc : ∀ id, id < E.n → ∀ p, E.loc id = some p → E'.loc (g id) = some p)
 {i : Nat} {o : AObj} (hl : E.loc i = E'.loc (g i)) (h : ObjR E' (g i) (some (renO g o))) : ObjR E i (some o) := by
 cases o with
 | cells ver cs =>
  rcases h with ⟨b, h1, h2⟩ | ⟨h1, h2⟩
  · refine .inl ⟨b, hl.trans h1, ?_⟩
    obtain ⟨conc, t, fr, a1, a2, a3, a4⟩ := h2.blk
    rw [zE] at a3 a4
    exact ⟨conc, t, fr, by rw [hw]; exact a1, a2, a3, fun j hj => VR.unren hw hst hok hloc (a4 j hj) _ (zO1 g hj)⟩
  · exact .inr ⟨lI.1 (by rw [← zE g, h1]; rfl), hl.trans h2⟩
 | map es =>
  obtain ⟨b, ents, clock, h1, h2, h3, h4⟩ := h
  rw [lM] at h3
  refine ⟨b, ents, clock, hl.trans h1, by rw [hw]; exact h2, h3, fun j h h' => ?_⟩
  have := h4 j (by simpa using h) h'
  simp only [List.getElem_map] at this
  exact ⟨VR.unren hw hst hok hloc this.1 _ rfl, VR.unren hw hst hok hloc this.2 _ rfl⟩
 | iter s p => obtain ⟨b, h1, h2⟩ := h; exact ⟨b, hl.trans h1, by rw [hw]; exact h2⟩
 | dead => exact hl.trans h
theorem ACalls.embed {P : Program} {f : FuncId} {args : List AV} {σs : Store} {R : AV → Store → Prop} (h : ACalls P f args σs R) {σ : Store} (ids : List Nat) (hn : ids.Nodup) (hlt : ∀ id ∈ ids, id < σ.length)
 (hobj : ids.map (fun id => σ[id]?) = σs.map fun o => some (renO (zJ5 ids σ.length) o)) {args' : List AV} (ha : renL (zJ5 ids σ.length) args = args') :
 ACalls P f args' σ fun r' σ' => ∃ r τ, R r τ ∧ r' = r.ren (zJ5 ids σ.length) ∧ σ' = zJ2 (zJ5 ids σ.length) ids τ σ := by
 refine ⟨h.1, fun E vs hS hl => ?_⟩
 have hlen : σs.length = ids.length := by have := congrArg lN hobj; simpa using this.symm
 generalize hg : zJ5 ids σ.length = g at *
 have g1 : ∀ i id, ids[i]? = some id → g i = id := fun i id h => by rw [← hg]; simp [zJ5, h]
 have g2 : ∀ i, ids.length ≤ i → g i = σ.length + (i - ids.length) := fun i h => by rw [← hg]; simp [zJ5, h]
 have g3 : ∀ i, i < ids.length → ids[i]? = some (g i) := fun i h => by
  have : ids[i]? = some ids[i] := List.getElem?_eq_getElem h
  rw [this, g1 i _ this]
 have gin : ∀ i, i < ids.length → g i ∈ ids := fun i h => List.mem_of_getElem? (g3 i h)
 let Es : Env := { w := E.w, st := E.st, loc := fun i => if i < ids.length then E.loc (g i) else none, n := ids.length }
 have hok : ∀ id ver, E.ok (g id) ver → Es.ok id ver := fun id ver h => by
  have hid : id < ids.length := by
   rcases Nat.lt_or_ge id ids.length with h1 | h1
   · exact h1
   · have := g2 id h1; have h2 := h.1; have := hS.len; omega
  exact ⟨hid, fun v ob hb => h.2 v ob (by simpa [Es, hid] using hb)⟩
 have hloc : ∀ id, id < Es.n → ∀ p, Es.loc id = some p → E.loc (g id) = some p := fun id hid p hp => by
  have hid' : id < ids.length := hid
  simpa [Es, hid'] using hp
 have hSs : SR Es σs := by
  refine ⟨hlen, fun i => ?_, fun i i' v v' b h1 h2 => ?_, fun i v b h1 => ?_, hS.stb, hS.glb⟩
  · by_cases hi : i < ids.length
    · have hsi : σs[i]? = some (σs[i]'(by omega)) := List.getElem?_eq_getElem (by omega)
      rw [hsi]
      have h1 : (ids.map fun id => σ[id]?)[i]? = (σs.map fun o => some (renO g o))[i]? := by rw [hobj]
      rw [List.getElem?_map, List.getElem?_map, g3 i hi, hsi] at h1
      simp only [Option.map_some, sI] at h1
      have h2 := hS.obj (g i)
      rw [h1] at h2
      exact ObjR.unren (E := Es) (E' := E) rfl (fun _ h => h) hok hloc (by simp [Es, hi]) h2
    · rw [List.getElem?_eq_none (by omega)]
      show Es.loc i = none
      simp [Es, hi]
  · have h1' : i < ids.length ∧ E.loc (g i) = some (v, some b) := by
     by_cases hi : i < ids.length
     · exact ⟨hi, by simpa [Es, hi] using h1⟩
     · simp [Es, hi] at h1
    have h2' : i' < ids.length ∧ E.loc (g i') = some (v', some b) := by
     by_cases hi : i' < ids.length
     · exact ⟨hi, by simpa [Es, hi] using h2⟩
     · simp [Es, hi] at h2
    have := hS.inj _ _ _ _ _ h1'.2 h2'.2
    have e1 := g3 i h1'.1
    have e2 := g3 i' h2'.1
    rw [this] at e1
    exact (List.getElem?_inj h1'.1 hn).1 (e1.trans e2.symm)
  · by_cases hi : i < ids.length
    · exact hS.blk (g i) v b (by simpa [Es, hi] using h1)
    · simp [Es, hi] at h1
 have hls : ListR Es args vs.toList := by
  have h1 : args'.length = args.length := by rw [← ha, zE]
  refine ⟨by rw [hl.1, h1], fun i hi => ?_⟩
  have := hl.2 i (by omega)
  exact VR.unren (E := Es) (E' := E) rfl (fun _ h => h) hok hloc this _ (by rw [← ha, zO1 g hi])
 refine (h.2 Es vs hSs hls).mono ?_
 rintro e w ⟨v, r, τ, E1, rfl, rfl, h3, h4, h5, hR⟩
 have hn1 : ids.length ≤ E1.n := h5.n
 have hτ : τ.length = E1.n := h4.len
 obtain ⟨p1, p2, p3, p4⟩ := putAll_spec g ids τ σ (by omega) hn hlt
 let loc2 : Nat → Option (Nat × Option Nat) := fun id =>
  match zY1 ids id 0 with
  | some i => E1.loc i
  | none => if id < E.n then E.loc id else E1.loc (ids.length + (id - E.n))
 let E2 : Env := { w := E1.w, st := E1.st, loc := loc2, n := E.n + (E1.n - ids.length) }
 have idx : ∀ i, i < ids.length → zY1 ids (g i) 0 = some i := fun i hi => idxOf_get hn (g3 i hi)
 have noidx : ∀ id, id ∉ ids → zY1 ids id 0 = none := fun id h => by
  cases hq : zY1 ids id 0 with
  | none => rfl
  | some j =>
   obtain ⟨_, h2⟩ := zd2 ids id 0 j hq
   rw [Nat.sub_zero] at h2
   exact absurd (List.mem_of_getElem? h2) h
 have l1 : ∀ i, E2.loc (g i) = E1.loc i := fun i => by
  rcases Nat.lt_or_ge i ids.length with hi | hi
  · simp only [E2, loc2, idx i hi]
  · have e := g2 i hi
    have hnot : g i ∉ ids := fun hm => by have := hlt _ hm; omega
    have hge : ¬ g i < E.n := by have := hS.len; omega
    simp only [E2, loc2, noidx _ hnot, if_neg hge]
    congr 1
    have := hS.len; omega
 have l2 : ∀ id, id < E.n → id ∉ ids → E2.loc id = E.loc id := fun id h1 h2 => by simp only [E2, loc2, noidx _ h2, if_pos h1]
 have rev : ∀ id, (id < E.n ∧ id ∉ ids) ∨ (∃ i, id = g i) := fun id => by
  by_cases hm : id ∈ ids
  · obtain ⟨i, hi, rfl⟩ := List.getElem_of_mem hm
    exact .inr ⟨i, (g1 i _ (List.getElem?_eq_getElem hi)).symm⟩
  · by_cases hlt' : id < E.n
    · exact .inl ⟨hlt', hm⟩
    · refine .inr ⟨ids.length + (id - E.n), ?_⟩
      rw [g2 _ (by omega)]; have := hS.len; omega
 have grange : ∀ i, i < E1.n → g i < E2.n := fun i hi => by
  show g i < E.n + (E1.n - ids.length)
  rcases Nat.lt_or_ge i ids.length with h | h
  · have := hlt _ (gin i h); have := hS.len; omega
  · have := g2 i h; have := hS.len; omega
 have hok2 : ∀ id ver, E1.ok id ver → E2.ok (g id) ver := fun id ver h => ⟨grange id h.1, fun v ob hb => h.2 v ob (by rw [← l1 id]; exact hb)⟩
 have hloc2 : ∀ id, id < E1.n → ∀ p, E2.loc (g id) = some p → E1.loc id = some p := fun id _ p hp => by rw [← l1 id]; exact hp
 -- what the call was not lent
 have esown : ∀ i v b, Es.loc i = some (v, some b) → i < ids.length ∧ E.loc (g i) = some (v, some b) := fun i v b h => by
  by_cases hi : i < ids.length
  · exact ⟨hi, by simpa [Es, hi] using h⟩
  · simp [Es, hi] at h
 have kept : ∀ b, b < E.w.heap.size → (∀ i v, i < ids.length → E.loc (g i) ≠ some (v, some b)) → E1.w.heap[b]? = E.w.heap[b]? := fun b hb hno =>
  h5.old b hb fun i v h => (hno i v (esown i v b h).1) (esown i v b h).2
 have notlent : ∀ id v b, id < E.n → id ∉ ids → E.loc id = some (v, some b) → ∀ i v', i < ids.length → E.loc (g i) ≠ some (v', some b) := fun id v b h1 h2 hl i v' hi hc => by
  have := hS.inj _ _ _ _ _ hl hc
  subst this
  exact h2 (gin i hi)
 have hext : Ext E E2 := {
  os := h5.os
  tape := h5.tape
  output := h5.output
  size := h5.size
  shape := h5.shape
  st := fun b hb => h5.st b hb
  n := Nat.le_add_right _ _
  loc := fun id hid ver ob hl => by
   by_cases hm : id ∈ ids
   · obtain ⟨i, hi, rfl⟩ := List.getElem_of_mem hm
     have hgi := g1 i _ (List.getElem?_eq_getElem hi)
     rw [← hgi, l1] at hl
     obtain ⟨v0, o0, e1, e2, e3⟩ := h5.loc i hi ver ob hl
     refine ⟨v0, o0, ?_, e2, e3⟩
     rw [← hgi]; simpa [Es, hi] using e1
   · rw [l2 id hid hm] at hl
     exact ⟨ver, ob, hl, nR _, fun _ => rfl⟩
  old := fun b hb hno => kept b hb fun i v _ => hno (g i) v
  own := fun id v b hl hb => by
   rcases rev id with ⟨h1, h2⟩ | ⟨i, rfl⟩
   · rw [l2 id h1 h2] at hl; exact ⟨id, v, hl⟩
   · rw [l1] at hl
     obtain ⟨i', v', e1⟩ := h5.own i v b hl hb
     exact ⟨g i', v', (esown i' v' b e1).2⟩
  stn := fun b hb => by
   rcases h5.stn b hb with h | h | ⟨i, v, h⟩
   · exact .inl h
   · exact .inr (.inl h)
   · exact .inr (.inr ⟨g i, v, (esown i v b h).2⟩) }
 refine ⟨v, _, _, E2, rfl, rfl, VR.renum (E := E1) (E' := E2) rfl (fun _ h => h) hok2 hloc2 h3, ?_, hext, r, τ, hR, rfl, rfl⟩
 refine ⟨by rw [p1, hτ, hS.len], fun id => ?_, fun id id' v v' b h1 h2 => ?_, fun id v b h1 => ?_, fun b hb => h4.stb b hb, h4.glb⟩
 · rcases rev id with ⟨h1, h2⟩ | ⟨i, rfl⟩
   · rw [p3 id (by rw [hS.len]; exact h1) h2]
     exact (hS.obj id).ext hext (l2 id h1 h2) fun v b hb => kept b (hS.blk id v b hb).1 (notlent id v b h1 h2 hb)
   · have hg' : (zJ2 g ids τ σ)[g i]? = (τ[i]?).map (renO g) := by
      rcases Nat.lt_or_ge i ids.length with hi | hi
      · exact p2 i _ (g3 i hi)
      · rw [g2 i hi, p4]
        congr 2; omega
     rw [hg']
     cases ht : τ[i]? with
     | none =>
      have := h4.obj i
      rw [ht] at this
      show E2.loc (g i) = none
      rw [l1]; exact this
     | some o =>
      have := h4.obj i
      rw [ht] at this
      exact ObjR.renum (E := E1) (E' := E2) rfl (fun _ h => h) hok2 hloc2 (l1 i) this
 · have mixed : ∀ id i v v' b, id < E.n → id ∉ ids → E.loc id = some (v, some b) → E1.loc i = some (v', some b) → False := fun id i v v' b h1 h2 hl hi => by
    have hb := (hS.blk id v b hl).1
    obtain ⟨i', v2, e1⟩ := h5.own i v' b hi hb
    obtain ⟨e2, e3⟩ := esown i' v2 b e1
    exact notlent id v b h1 h2 hl i' v2 e2 e3
   rcases rev id with ⟨a1, a2⟩ | ⟨i, rfl⟩
   · rw [l2 id a1 a2] at h1
     rcases rev id' with ⟨b1, b2⟩ | ⟨i', rfl⟩
     · rw [l2 id' b1 b2] at h2; exact hS.inj _ _ _ _ _ h1 h2
     · rw [l1] at h2; exact (mixed _ _ _ _ _ a1 a2 h1 h2).elim
   · rw [l1] at h1
     rcases rev id' with ⟨b1, b2⟩ | ⟨i', rfl⟩
     · rw [l2 id' b1 b2] at h2; exact (mixed _ _ _ _ _ b1 b2 h2 h1).elim
     · rw [l1] at h2; rw [h4.inj _ _ _ _ _ h1 h2]
 · rcases rev id with ⟨a1, a2⟩ | ⟨i, rfl⟩
   · rw [l2 id a1 a2] at h1
     refine ⟨Nat.lt_of_lt_of_le (hS.blk id v b h1).1 h5.size, fun hs => ?_⟩
     rcases h5.stn b hs with h | h | ⟨i, v', h⟩
     · exact (hS.blk id v b h1).2 h
     · exact Nat.lt_irrefl _ (Nat.lt_of_lt_of_le (hS.blk id v b h1).1 h)
     · exact notlent id v b a1 a2 h1 i v' (esown i v' b h).1 (esown i v' b h).2
   · rw [l1] at h1
     exact h4.blk i v b h1
section
variable {P : Program} {n k : Nat} {Q : Exit → Fr → Store → Prop} {F : Fr} {σ : Store}
end
end AM
end Go.Proofs.YtaddlmlpeghonaaDoor
end
section
namespace Go.Proofs.YtaddlmlpeghonaaDoor
namespace AM
open Go.RowKit
theorem Store.at_tl {o : AObj} {x : Store} {i v : Nat} : Store.at (o :: x) (i + 1) v = Store.at x i v := rfl
theorem Store.mapAt_hd {es : List (AV × AV)} {x : Store} : Store.mapAt (.map es :: x) 0 = some es := rfl
theorem Store.mapAt_tl {o : AObj} {x : Store} {i : Nat} : Store.mapAt (o :: x) (i + 1) = Store.mapAt x i := rfl
theorem Store.iterAt_hd {s : List UInt8} {p : Nat} {x : Store} : Store.iterAt (.iter s p :: x) 0 = some (s, p) := rfl
theorem Store.iterAt_tl {o : AObj} {x : Store} {i : Nat} : Store.iterAt (o :: x) (i + 1) = Store.iterAt x i := rfl
class BoolP (b : Bool) (p q : outParam Prop) : Prop where
 t : b = true → p
 f : b = false → q
instance (priority := low) boolP_eq (b : Bool) : BoolP b (b = true) (b = false) := ⟨id, id⟩
instance boolP_dec (p : Prop) [Decidable p] : BoolP (decide p) p (¬ p) := ⟨of_decide_eq_true, of_decide_eq_false⟩
instance boolP_not (b : Bool) (p q : Prop) [h : BoolP b p q] : BoolP (!b) q p := ⟨fun e => h.f (by simpa using e), fun e => h.t (by simpa using e)⟩
instance boolP_and (a b : Bool) (p q p' q' : Prop) [h : BoolP a p q] [h' : BoolP b p' q'] : BoolP (a && b) (p ∧ p') (q ∨ q') :=
 ⟨fun e => by simp only [Bool.and_eq_true] at e; exact ⟨h.t e.1, h'.t e.2⟩, fun e => by
  cases ha : a with
  | false => exact .inl (h.f ha)
  | true => rw [ha] at e; exact .inr (h'.f (by simpa using e))⟩
instance boolP_or (a b : Bool) (p q p' q' : Prop) [h : BoolP a p q] [h' : BoolP b p' q'] : BoolP (a || b) (p ∨ p') (q ∧ q') :=
 ⟨fun e => by
  cases ha : a with
  | true => exact .inl (h.t ha)
  | false => rw [ha] at e; exact .inr (h'.t (by simpa using e)), fun e => by simp only [Bool.or_eq_false_iff] at e; exact ⟨h.f e.1, h'.f e.2⟩⟩
instance boolP_beq (a b : Bool) : BoolP (a == b) (a = b) (a ≠ b) := ⟨fun e => by simpa using e, fun e => by simpa using e⟩
def AV.isS : AV → Bool
 | .ds .. | .os .. => true
 | _ => false
section
variable {P : Program} {n k : Nat} {Q : Exit → Fr → Store → Prop} {F : Fr} {σ : Store}
theorem zA {c : Operand} {x y : Code} {b : Bool} {p q : Prop} [hb : BoolP b p q] (hc : ev F c = .bool b) (ht : p → awp P n k x Q F σ) (hf : q → awp P n k y Q F σ) : awp P n k (.cond c x y) Q F σ :=
 zx hc (fun e => ht (hb.t e)) (fun e => hf (hb.f e))
theorem za1 {ops : Array Oper} {l : List Oper} {b : Bool} {p q : Prop} [hp : BoolP b p q] (t : Tmp) (hb : F t = .bool b) (h1 : p → zP1 P n k ops l Q (upd F t (.bool true)) σ) (h0 : q → zP1 P n k ops l Q (upd F t (.bool false)) σ) :
 zP1 P n k ops l Q F σ := zI t hb (fun e => h1 (hp.t e)) (fun e => h0 (hp.f e))
def noGotoQ (Q : Exit → Fr → Store → Prop) : Exit → Fr → Store → Prop
 | .goto _, _, _ => False
 | e, F, σ => Q e F σ
theorem noGotoQ_normal {Q : Exit → Fr → Store → Prop} {F : Fr} {σ : Store} : noGotoQ Q .normal F σ = Q .normal F σ := rfl
theorem noGotoQ_ret {Q : Exit → Fr → Store → Prop} {F : Fr} {σ : Store} : noGotoQ Q .ret F σ = Q .ret F σ := rfl
theorem noGotoQ_exit {Q : Exit → Fr → Store → Prop} {F : Fr} {σ : Store} {i : Nat} : noGotoQ Q (.exit i) F σ = Q (.exit i) F σ := rfl
theorem slice_nil {T : TT} (hT : TOK P T) {E : Env} {t : TypeId} {i : TI} {e : TypeId} (hi : T t = some i) (hd : i.desc = .slice e) {x : AV} {vx : Value} (hx : VR E x vx) (hs : x.isS = true) (ox oy : Operand) :
 ∃ b, (do eqGuard .eql t ox oy vx (.slice none 0 0); Go.binOp .eql t vx (.slice none 0 0) : Sem Value).run P E.w = .ok (.bool b) E.w ∧ (b = true → zM x = 0) := by
 have key : ∀ (a : Option Addr) (l c : Nat), (do eqGuard .eql t ox oy (.slice a l c) (.slice none 0 0); Go.binOp .eql t (.slice a l c) (.slice none 0 0) : Sem Value).run P E.w = .ok (.bool a.isNone) E.w := by
  intro a l c
  have h1 : (eqGuard .eql t ox oy (.slice a l c) (.slice none 0 0)).run P E.w = .ok () E.w := by simp [eqGuard]
  rw [Sem.run_bind, h1, Result.andThen_ok]
  have h3 : ∀ d, (Op.equalIn (d + 1) t (.slice a l c) (.slice none 0 0)).run P E.w = .ok a.isNone E.w := by
   intro d
   cases a with
   | none => simp only [Op.equalIn, Sem.run_bind, zv _ (hT _ _ hi), Result.andThen_ok, hd, Sem.run_pure]
   | some a => simp only [Op.equalIn, Sem.run_bind, zv _ (hT _ _ hi), Result.andThen_ok, hd, Sem.run_pure]; rfl
  have h2 : (Op.equal t (.slice a l c) (.slice none 0 0)).run P E.w = .ok a.isNone E.w := h3 9999
  simp only [Go.binOp, Sem.run_bind, h2, Result.andThen_ok, Sem.run_pure]
 cases hx with
 | dsn tt => exact ⟨true, key none 0 0, fun _ => rfl⟩
 | ds nl cells len tt a cap vs ha hr h hc ht hB => exact ⟨false, key (some a) len cap, fun h => by cases h⟩
 | osn sz id ver off tt a hk h => exact ⟨a.isNone, key a 0 0, fun _ => rfl⟩
 | os nl sz id ver off len tt a cap hk hc ht hB h => exact ⟨false, key (some a) len cap, fun h => by cases h⟩
 | _ => cases hs
theorem zv4 {T : TT} (hT : TOK P T) {ops : Array Oper} {o : Oper} {l : List Oper} {x : Operand} {t yt : TypeId} {i : TI} {e : TypeId} (hg : zS1 ops F o = some true) (ho : o.op = .binOp .eql t x (.const (.slice none 0 0)) yt) (hi : T t = some i) (hd : i.desc = .slice e)
 (hs : (ev F x).isS = true) (hdst : dstOk n o.dst = true) (h : ∀ b, (b = true → zM (ev F x) = 0) → zP1 P n k ops l Q (updO F o.dst (.bool b)) σ) : zP1 P n k ops (o :: l) Q F σ := by
 intro E a hk hS hF
 unfold wpList
 rw [if_pos (zw1 hF hg)]
 refine .inl ?_
 obtain ⟨b, h1, h2⟩ := slice_nil (P := P) hT hi hd (hF.ev x) hs x (.const (.slice none 0 0))
 unfold Oper.wp
 have hrun : (execOp a.eval o).run P E.w = .ok (.value (.bool b)) E.w := by
  obtain ⟨dst, op, ty, pos, after, guard⟩ := o
  simp only at ho
  subst ho
  show (do pure (.value (← (do eqGuard .eql t x (.const (.slice none 0 0)) (a.eval x) (.slice none 0 0); Go.binOp .eql t (a.eval x) (.slice none 0 0) : Sem Value))) : Sem Next).run P E.w = _
  rw [Sem.run_bind, h1, Result.andThen_ok]; rfl
 rw [hrun]
 exact h b h2 E _ hk hS (hF.put (zb3 hdst) (.bool b))
theorem zm {T : TT} (hT : TOK P T) {f : FuncId} {fn : Func} {c : Code} {n : Nat} {rs : List ResultVar} {args : List AV} {x : AV} (hf : P.funcs[f]? = some fn) (hb : fn.body = some c)
 (hn : fn.ntmps = n) (hr : fn.results.toList = rs) (hent : ∀ vs w, (callFunc f vs).run P w = .ok (.enter f vs) w) (hl : args.length ≤ n) (h : awp P n 0 c (retQ T rs fun r σ' => tell σ' [] true 12 r = x) (fr args) []) :
 ACalls P f args [] fun r _ => r = x := by
 refine ACalls.told ((zQ1 (σ := []) (R := fun r σ' => tell σ' [] true 12 r = x) hT hf hb hn hr hent hl h).mono fun r σ' hx => ?_)
 exact ⟨[], true, 12, List.nodup_nil, fun _ h => (by cases h), rfl, hx⟩
theorem zq4 {T : TT} (keep : List Nat) (hT : TOK P T) {f : FuncId} {fn : Func} {c : Code} {n : Nat} {rs : List ResultVar} {args : List AV} {σ : Store} {R : AV → Store → Prop} (hf : P.funcs[f]? = some fn) (hb : fn.body = some c)
 (hn : fn.ntmps = n) (hr : fn.results.toList = rs) (hent : ∀ vs w, (callFunc f vs).run P w = .ok (.enter f vs) w) (hl : args.length ≤ n) (hk : keep.take σ.length = List.range σ.length)
 (h : awp P n σ.length c (retQ T rs fun r σ' => keep.Nodup ∧ (∀ id ∈ keep, id < σ'.length) ∧ R (tell σ' keep true 12 r) (tellS σ' keep true 12)) (fr args) σ) :
 ACalls P f args σ R := by
 refine ACalls.told ((zQ1 hT hf hb hn hr hent hl h).mono fun r σ' hx => ?_)
 exact ⟨keep, true, 12, hx.1, hx.2.1, hk, hx.2.2⟩
theorem zt {c : Operand} {x y : Code} (hc : ev F c = .bool true) (h : awp P n k x Q F σ) : awp P n k (.cond c x y) Q F σ := zx hc (fun _ => h) (fun e => by cases e)
theorem zq {c : Operand} {x y : Code} (hc : ev F c = .bool false) (h : awp P n k y Q F σ) : awp P n k (.cond c x y) Q F σ := zx hc (fun e => by cases e) (fun _ => h)
theorem za {T : TT} (hT : TOK P T) (m : Nat) {ops : Array Oper} {l : List Oper} (h : Run (zA5 T n ops (l.take m) F σ) fun l' F' σ' => l' = [] ∧ zP1 P n k ops (l.drop m) Q F' σ') : zP1 P n k ops l Q F σ := by
 unfold Run at h
 split at h
 · rename_i l' F' σ' he
   obtain ⟨rfl, h⟩ := h
   have key : ∀ (a b : List Oper) (F F' : Fr) (σ σ' : Store), zA5 T n ops a F σ = some ([], F', σ') → zP1 P n k ops b Q F' σ' → zP1 P n k ops (a ++ b) Q F σ := by
    intro a
    induction a with
    | nil => intro b F F' σ σ' h1 h2; cases h1; exact h2
    | cons o a ih =>
     intro b F F' σ σ' h1 h2
     simp only [zA5] at h1
     split at h1
     · rename_i hg
       cases hc : isCall o with
       | true => rw [hc] at h1; cases h1
       | false =>
        rw [hc] at h1
        simp only [cond_false] at h1
        cases hdk : dstOk n o.dst with
        | false => rw [hdk] at h1; cases h1
        | true =>
         rw [hdk] at h1
         simp only [cond_true] at h1
         split at h1
         · rename_i r σ1 he'
           exact opsWp_op hT hg he' (zb3 hdk) (ih b _ _ _ _ h1 h2)
         · cases h1
     · rename_i hg
       cases hdk : dstOk n o.dst with
       | false => rw [hdk] at h1; cases h1
       | true =>
        rw [hdk] at h1
        exact opsWp_skip hg (zb3 hdk) (ih b _ _ _ _ h1 h2)
     · cases h1
   have := key (l.take m) (l.drop m) F F' σ σ' he h
   rwa [List.take_append_drop] at this
 · exact h.elim
theorem DW.if {T : TT} {id : Nat} {ops : List Oper} {es : List EK} {F0 : Fr} {σ0 : Store} {ex : List (Nat × List Nat)} {l : List Oper} {es' : List EK} {Ss : List Store} {rs : List AV} {b : Bool} {p q : Prop} [hp : BoolP b p q] (t : Tmp) (hb : F t = .bool b)
 (h1 : p → DW P n k T id ops es F0 σ0 ex Q l es' (upd F t (.bool true)) Ss rs) (h0 : q → DW P n k T id ops es F0 σ0 ex Q l es' (upd F t (.bool false)) Ss rs) : DW P n k T id ops es F0 σ0 ex Q l es' F Ss rs := by
 have e : F = upd F t (.bool b) := by
  funext x; unfold upd; split
  · rename_i h; rw [h, hb]
  · rfl
 rw [e]
 cases b with
 | true => exact h1 (hp.t rfl)
 | false => exact h0 (hp.f rfl)
theorem DW.at {T : TT} {id : Nat} {ops : List Oper} {es : List EK} {F0 : Fr} {σ0 : Store} {ex : List (Nat × List Nat)} {l : List Oper} {es' : List EK} {Ss : List Store} {rs : List AV} {b : Bool} (t : Tmp) (hb : F t = .bool b)
 (h1 : b = true → DW P n k T id ops es F0 σ0 ex Q l es' (upd F t (.bool true)) Ss rs) (h0 : b = false → DW P n k T id ops es F0 σ0 ex Q l es' (upd F t (.bool false)) Ss rs) : DW P n k T id ops es F0 σ0 ex Q l es' F Ss rs := by
 have e : F = upd F t (.bool b) := by
  funext x; unfold upd; split
  · rename_i h; rw [h, hb]
  · rfl
 rw [e]
 cases b with
 | true => exact h1 rfl
 | false => exact h0 rfl
end
theorem evLoad_op {T : TT} {t id ver off : Nat} {σ : Store} : zJ1 T t (.op id ver off) σ = match T t, Store.at σ id ver with
 | some i, some cs => evRd cs off i.size i.agg
 | _, _ => none := by
 cases h : T t <;> cases h2 : Store.at σ id ver <;> simp [zJ1, h, h2]
theorem evRd_agg {cs : List AV} {off size : Nat} : evRd cs off size true = if off + size ≤ cs.length then some (.agg ((cs.drop off).take size)) else none := rfl
theorem evRd_one {cs : List AV} {off size : Nat} : evRd cs off size false = if off < cs.length then some (gc cs off) else none := rfl
theorem gc_hd {a : AV} {l : List AV} : gc (a :: l) 0 = a := rfl
theorem gc_tl {a : AV} {l : List AV} {i : Nat} : gc (a :: l) (i + 1) = gc l i := by simp [gc]
theorem fr_hd {a : AV} {l : List AV} : fr (a :: l) 0 = a := rfl
theorem fr_nil {i : Nat} : fr [] i = .u := rfl
attribute [go_sem] Run_some zA5 zS1 isCall dstOk evOp ev updO upd fr_hd fr_nil constAV constCell zk2 cond_true cond_false decide_true decide_false if_true if_false Option.getD_some Option.getD_none bS List.getElem?_cons_zero List.getElem?_cons_succ List.getElem?_nil List.getElem?_toArray true_and and_true mC mN Option.map_some Option.map_none List.toList_toArray Bool.true_eq_false Bool.false_eq_true Bool.not_true Bool.not_false beq_self_eq_true beq_tr beq_fa evBinA evBin evInt evUn evStr evPick evNil zi4 evIface zZ2 evBox evStore evLoad_op evRd_agg evRd_one TypeDesc.isAgg TI.agg AV.okc AV.one AV.cells gc_hd gc_tl zP Store.at_hd Store.at_tl Store.mapAt_hd Store.mapAt_tl Store.iterAt_hd Store.iterAt_tl lC lZ List.set_cons_zero List.set_cons_succ cA nA List.all_cons List.all_nil Bool.and_true Bool.true_and and_self dZ List.drop_succ_cons List.take_succ_cons List.take_zero List.take_nil List.drop_nil nZ Nat.add_zero ne_eq not_true_eq_false not_false_eq_true zx3 zh4 foldO zC5 zB5 zf4 evRange exists_eq exists_eq' RunD_some evD memFree stabs agr agrs isAlloc hasN ownL ownA refs za4 fC fZ or_true true_or or_false false_or sI Prod.mk.injEq implies_true forall_const noGotoQ_normal noGotoQ_ret noGotoQ_exit zd thenQ_ret thenQ_exit thenQ_goto zn2 blockQ_ret blockQ_exit evBuild zt2 zs3 Option.isSome_some List.getElem_toArray List.size_toArray List.getElem_cons_zero List.getElem_cons_succ
end AM
end Go.Proofs.YtaddlmlpeghonaaDoor
end
section
namespace Go.Proofs.YtaddlmlpeghonaaDoor
namespace AM
open Go.RowKit
structure Enc (T : TT) (t e sz : Nat) {α : Type} (enc : α → List AV) : Prop where
 sl : ∃ i, T t = some i ∧ i.desc = .slice e
 el : ∃ j, T e = some j ∧ j.size = sz
 pos : 0 < sz
 len : ∀ x, (enc x).length = sz
section
variable {T : TT} {t e sz : Nat} {α : Type} {enc : α → List AV}
theorem zr (h : ∀ x, (enc x).length = sz) (l : List α) : (l.flatMap enc).length = l.length * sz := by
 induction l with
 | nil => simp
 | cons x l ih => rw [fC, lP, ih, h, lC, Nat.succ_mul]; omega
theorem enc_drop (h : ∀ x, (enc x).length = sz) (l : List α) (i : Nat) : (l.flatMap enc).drop (i * sz) = (l.drop i).flatMap enc := by
 induction l generalizing i with
 | nil => simp
 | cons x l ih =>
  cases i with
  | zero => simp
  | succ i =>
   rw [Nat.succ_mul, Nat.add_comm, ← List.drop_drop, fC, ← h x, List.drop_left, h x, ih, List.drop_succ_cons]
theorem enc_take (h : ∀ x, (enc x).length = sz) (l : List α) (i : Nat) : (l.flatMap enc).take (i * sz) = (l.take i).flatMap enc := by
 induction l generalizing i with
 | nil => simp
 | cons x l ih =>
  cases i with
  | zero => simp
  | succ i =>
   have e : (i + 1) * sz = (enc x).length + i * sz := by rw [h, Nat.succ_mul]; omega
   rw [fC, e, List.take_length_add_append, ih, List.take_succ_cons, fC]
theorem enc_get (h : ∀ x, (enc x).length = sz) {l : List α} {i : Nat} (hi : i < l.length) : ((l.flatMap enc).drop (i * sz)).take sz = enc l[i] := by
 rw [enc_drop h, List.drop_eq_getElem_cons hi, fC, ← h l[i], List.take_left]
theorem enc_gc (h : ∀ x, (enc x).length = sz) {l : List α} {i o : Nat} (hi : i < l.length) (ho : o < sz) : gc (l.flatMap enc) (i * sz + o) = gc (enc l[i]) o := by
 have h1 := enc_get h hi
 have h2 : gc (((l.flatMap enc).drop (i * sz)).take sz) o = gc (l.flatMap enc) (i * sz + o) := by
  simp only [gc, gG, List.getElem?_take, List.getElem?_drop, ho, if_true]
 rw [← h2, h1]
theorem Enc.idx (h : Enc T t e sz enc) {l : List α} {k : Int} (h0 : 0 ≤ k) (h1 : k < l.length) (nl tt : Bool) (q : IntKind) :
 zl1 T t (.ds nl (l.flatMap enc) l.length tt) (.int q k) = some (.dp (l.flatMap enc) (k.toNat * sz)) := by
 obtain ⟨i, hi, hd⟩ := h.sl
 obtain ⟨j, hj, hs⟩ := h.el
 have h2 : k.toNat * sz < (l.flatMap enc).length := by
  rw [zr h.len]
  have : k.toNat < l.length := by omega
  exact Nat.mul_lt_mul_of_lt_of_le this (nR _) h.pos
 simp only [zl1, hi, hd, hj, hs]
 rw [if_pos ⟨h0, h1, h2⟩]
theorem Enc.idxo (h : Enc T t e sz enc) {len : Nat} {k : Int} (h0 : 0 ≤ k) (h1 : k < len) (nl tt : Bool) (q : IntKind) (sz' id ver off : Nat) :
 zl1 T t (.os nl sz' id ver off len tt) (.int q k) = some (.op id ver (off + k.toNat * sz)) := by
 obtain ⟨i, hi, hd⟩ := h.sl
 obtain ⟨j, hj, hs⟩ := h.el
 simp only [zl1, hi, hd, hj, hs]
 rw [if_pos ⟨h0, h1⟩]
theorem evRd_enc (h : ∀ x, (enc x).length = sz) {l : List α} {i : Nat} (hi : i < l.length) : evRd (l.flatMap enc) (i * sz) sz true = some (.agg (enc l[i])) := by
 have : i * sz + sz ≤ (l.flatMap enc).length := by
  rw [zr h, ← Nat.succ_mul]; exact Nat.mul_le_mul_right _ hi
 simp only [evRd, if_true]
 rw [if_pos this, enc_get h hi]
theorem evRd_fld (h : ∀ x, (enc x).length = sz) {l : List α} {i o n : Nat} (hi : i < l.length) (ho : o < sz) : evRd (l.flatMap enc) (i * sz + o) n false = some (gc (enc l[i]) o) := by
 have : i * sz + o < (l.flatMap enc).length := by
  rw [zr h]
  have : i * sz + sz ≤ l.length * sz := by rw [← Nat.succ_mul]; exact Nat.mul_le_mul_right _ hi
  omega
 simp only [evRd, Bool.false_eq_true, if_false]
 rw [if_pos this, enc_gc h hi ho]
theorem Enc.load (h : Enc T t e sz enc) {j : TI} (hj : T e = some j) (hag : j.agg = true) {l : List α} {i : Nat} (hi : i < l.length) (σ : Store) : zJ1 T e (.dp (l.flatMap enc) (i * sz)) σ = some (.agg (enc l[i])) := by
 obtain ⟨j', hj', hs⟩ := h.el
 rw [hj] at hj'; cases hj'
 simp only [zJ1, hj, hag, hs]
 exact evRd_enc h.len hi
theorem Enc.fld (h : Enc T t e sz enc) {f : Nat} {j : TI} (hj : T f = some j) (hag : j.agg = false) {l : List α} {i o : Nat} (hi : i < l.length) (ho : o < sz) (σ : Store) : zJ1 T f (.dp (l.flatMap enc) (i * sz + o)) σ = some (gc (enc l[i]) o) := by
 simp only [zJ1, hj, hag]
 exact evRd_fld h.len hi ho
end
theorem zo1 {sz : Nat} {α : Type} {enc : α → List AV} (h : ∀ x, (enc x).length = sz) (l : List α) (nl tt : Bool) (σ : Store) : zF σ sz (.ds nl (l.flatMap enc) l.length tt) = some (l.length, l.flatMap enc) := by
 simp only [zF, zr h, nR, if_true]
 rw [List.take_of_length_le (by rw [zr h]; exact nR _)]
theorem Enc.app {T : TT} {t e sz : Nat} {α : Type} {enc : α → List AV} (h : Enc T t e sz enc) (ho : ∀ x, (enc x).all AV.one = true) {j : TI} (hj : T e = some j) (hb : 0 < j.bytes) (l : List α) (s : AV) (hn : (zM s + l.length) * j.bytes ≤ 140737488355328) (nl tt : Bool) (σ : Store) :
 zL T t t s (.ds nl (l.flatMap enc) l.length tt) σ = zD sz s l.length (l.flatMap enc) σ := by
 obtain ⟨i, hi, hd⟩ := h.sl
 obtain ⟨j', hj', hs⟩ := h.el
 rw [hj] at hj'; cases hj'
 have h1 : (l.flatMap enc).all AV.one = true := by
  rw [List.all_flatMap]
  exact List.all_eq_true.2 fun x _ => ho x
 simp only [zL, hi, hd, hj, hs, zo1 h.len]
 rw [if_pos ⟨hn, hb, h.pos, h1⟩]
theorem Enc.fld0 {T : TT} {t e sz : Nat} {α : Type} {enc : α → List AV} (h : Enc T t e sz enc) {f : Nat} {j : TI} (hj : T f = some j) (hag : j.agg = false) {l : List α} {i : Nat} (hi : i < l.length) (σ : Store) : zJ1 T f (.dp (l.flatMap enc) (i * sz)) σ = some (gc (enc l[i]) 0) := by
 have := h.fld hj hag hi h.pos σ
 rwa [Nat.add_zero] at this
theorem enc_rd0 {sz : Nat} {α : Type} {enc : α → List AV} (h : ∀ x, (enc x).length = sz) {l : List α} {k n : Nat} (hk : k < l.length) (ho : 0 < sz) : evRd (l.flatMap enc) (k * sz) n false = some (gc (enc l[k]) 0) := by
 have := evRd_fld (n := n) h hk ho
 rwa [Nat.add_zero] at this
def encI (n : Int) : List AV := [.int .i64 n]
def encS (s : List UInt8) : List AV := [.str s]
def encB (b : UInt8) : List AV := [.int .u8 b.toNat]
theorem zd3 (l : List UInt8) : bys l = l.flatMap encB := by
 induction l with
 | nil => rfl
 | cons b l ih => rw [fC, ← ih]; rfl
theorem zW {x : Int} (h : -9223372036854775808 ≤ x) (h' : x < 9223372036854775808) : IntKind.i64.wrap x = x := zY4 h h'
section
variable {σ : Store} {keep : List Nat} {ls : Bool} {f : Nat}
theorem tell_u : tell σ keep ls (f + 1) .u = .u := rfl
theorem tell_bool {b : Bool} : tell σ keep ls (f + 1) (.bool b) = .bool b := rfl
theorem zB3 {k : IntKind} {n : Int} : tell σ keep ls (f + 1) (.int k n) = .int k n := rfl
theorem zA3 {s : List UInt8} : tell σ keep ls (f + 1) (.str s) = .str s := rfl
theorem tell_nilp : tell σ keep ls (f + 1) .nilp = .nilp := rfl
theorem tell_nilm : tell σ keep ls (f + 1) .nilm = .nilm := rfl
theorem tell_nilI : tell σ keep ls (f + 1) .nilI = .nilI := rfl
theorem tell_nilF : tell σ keep ls (f + 1) .nilF = .nilF := rfl
theorem tell_agg {l : List AV} : tell σ keep ls (f + 1) (.agg l) = .agg (l.map (tell σ keep ls f)) := rfl
theorem tell_tup {l : List AV} : tell σ keep ls (f + 1) (.tup l) = .tup (l.map (tell σ keep ls f)) := rfl
theorem tell_ifc {t : TypeId} {a : AV} : tell σ keep ls (f + 1) (.ifc t a) = .ifc t (tell σ keep ls f a) := rfl
theorem zU2 {nl : Bool} {cs : List AV} {len : Nat} {t : Bool} : tell σ keep ls (f + 1) (.ds nl cs len t) = .ds (nl || ls) (cs.map (tell σ keep ls f)) len (t && !ls) := rfl
theorem tell_dp {cs : List AV} {off : Nat} : tell σ keep ls (f + 1) (.dp cs off) = .dp (cs.map (tell σ keep ls f)) off := rfl
theorem tell_op {id ver off : Nat} : tell σ keep ls (f + 1) (.op id ver off) = match zY1 keep id 0 with
 | some j => .op j ver off
 | none => match Store.at σ id ver with
  | some (c :: cs) => .dp ((c :: cs).map (tell σ keep ls f)) off
  | _ => .u := rfl
theorem zT1 {nl : Bool} {sz id ver off len : Nat} {t : Bool} : tell σ keep ls (f + 1) (.os nl sz id ver off len t) = match zY1 keep id 0 with
 | some j => .os nl sz j ver off len t
 | none => match Store.at σ id ver with
  | some cs => if off + len * sz ≤ cs.length then .ds true (((cs.drop off).take (len * sz)).map (tell σ keep ls f)) len false else .u
  | none => .u := rfl
theorem tell_mp {id : Nat} : tell σ keep ls (f + 1) (.mp id) = match zY1 keep id 0 with
 | some j => .mp j
 | none => .u := rfl
theorem zC1 {id j : Nat} : zY1 [] id j = none := rfl
theorem zH1 {x : Nat} {l : List Nat} {id j : Nat} : zY1 (x :: l) id j = if x = id then some j else zY1 l id (j + 1) := rfl
theorem ze5 : tellS σ [] ls f = [] := rfl
theorem zD2 {id : Nat} : tellS σ (id :: keep) ls f = zl3 σ (id :: keep) ls f (σ.getD id .dead) :: keep.map fun i => zl3 σ (id :: keep) ls f (σ.getD i .dead) := rfl
theorem zq2 {ver : Nat} {cs : List AV} : zl3 σ keep ls f (.cells ver cs) = .cells ver (cs.map (tell σ keep ls f)) := rfl
theorem tellO_map {es : List (AV × AV)} : zl3 σ keep ls f (.map es) = .map (es.map fun e => (tell σ keep ls f e.1, tell σ keep ls f e.2)) := rfl
theorem tellO_iter {s : List UInt8} {p : Nat} : zl3 σ keep ls f (.iter s p) = .iter s p := rfl
theorem tellO_dead : zl3 σ keep ls f .dead = .dead := rfl
theorem zF2 {o : AObj} {s : Store} : List.getD (o :: s) 0 .dead = o := rfl
theorem zE2 {o : AObj} {s : Store} {i : Nat} : List.getD (o :: s) (i + 1) AObj.dead = s.getD i .dead := by simp
end
end AM
end Go.Proofs.YtaddlmlpeghonaaDoor
end
section
namespace Go.Proofs.YtaddlmlpeghonaaDoor
namespace AM
open Go.RowKit
def fs : List (Nat × AV) → Fr
 | [], _ => .u
 | (t, a) :: l, s => if s = t then a else fs l s
def zM4 (F : Fr) (m : List Nat) : List (Nat × AV) := m.map fun t => (t, F t)
theorem zn {s : Nat} : fs [] s = .u := rfl
theorem zl {t s : Nat} {a : AV} {l : List (Nat × AV)} : fs ((t, a) :: l) s = if s = t then a else fs l s := rfl
theorem keepS_nil {F : Fr} : zM4 F [] = [] := rfl
theorem keepS_cons {F : Fr} {t : Nat} {m : List Nat} : zM4 F (t :: m) = (t, F t) :: zM4 F m := rfl
attribute [go_sem] zn zl keepS_nil keepS_cons
def Fits (F : Fr) : List (Nat × AV) → Prop
 | [] => True
 | (t, a) :: l => F t = a ∧ Fits F l
theorem FR.fits {E : Env} {n : Nat} {F : Fr} {a : Act} (h : FR E n F a) : ∀ {L : List (Nat × AV)}, Fits F L → FR E n (fs L) a := by
 intro L hL
 refine ⟨h.size, h.defers, fun t => ?_⟩
 induction L with
 | nil => exact .u _
 | cons p L ih =>
  obtain ⟨s, x⟩ := p
  obtain ⟨h1, h2⟩ := hL
  rw [zl]
  split
  · rename_i e; subst e; rw [← h1]; exact h.tmps t
  · exact ih h2
theorem fits_keepS (F : Fr) (m : List Nat) : Fits F (zM4 F m) := by
 induction m with
 | nil => trivial
 | cons t m ih => exact ⟨rfl, ih⟩
def TLS (σ : Store) (keep : List Nat) (ls : Bool) (F : Fr) : List (Nat × AV) → Prop
 | [] => True
 | (t, a) :: l => tell σ keep ls 12 (F t) = a ∧ TLS σ keep ls F l
inductive TellS (k : Nat) (F : Fr) (σ : Store) (L : List (Nat × AV)) (τ : Store) : Prop
 | same (h : Fits F L) (e : σ = τ)
 | told (keep : List Nat) (ls : Bool) (h1 : keep.Nodup) (h2 : ∀ id ∈ keep, id < σ.length) (h3 : keep.take k = List.range k) (h4 : tellS σ keep ls 12 = τ) (h5 : TLS σ keep ls F L)
theorem FR.tls {E : Env} {n : Nat} {F : Fr} {a : Act} {σ : Store} (hS : SR E σ) (hF : FR E n F a) {keep : List Nat} {ls : Bool} {L : List (Nat × AV)} (hL : TLS σ keep ls F L) : FR (E.ren keep) n (fs L) a := by
 refine ⟨hF.size, hF.defers, fun t => ?_⟩
 induction L with
 | nil => exact .u _
 | cons p L ih =>
  obtain ⟨s, x⟩ := p
  obtain ⟨h1, h2⟩ := hL
  rw [zl]
  split
  · rename_i e; subst e; rw [← h1]; exact VR.tell hS 12 _ (hF.tmps t)
  · exact ih h2
theorem TellS.env {k : Nat} {F : Fr} {σ : Store} {L : List (Nat × AV)} {τ : Store} (h : TellS k F σ L τ) {E : Env} {n : Nat} {a : Act} (hk : k ≤ E.n) (hS : SR E σ) (hF : FR E n F a) :
 ∃ E', E'.w = E.w ∧ SR E' τ ∧ FR E' n (fs L) a ∧ ExtK k E E' := by
 cases h with
 | same h e => subst e; exact ⟨E, rfl, hS, hF.fits h, ExtK.refl E hk⟩
 | told keep ls h1 h2 h3 h4 h5 =>
  subst h4
  exact ⟨E.ren keep, rfl, hS.tell h1 h2 ls 12, hF.tls hS h5, ExtK.ren hS.stb h3⟩
theorem upon_mono {P : Program} {ops : Array Oper} {Q1 Q2 : Exit → Act → World → Prop} (hq : ∀ e a w, e ≠ .normal → Q1 e a w → Q2 e a w) (o : Oper) (K K' : Act → World → Prop) (a : Act) (w : World) (hK : ∀ a w, K a w → K' a w) (h : o.wp P a w K Q1) : o.wp P a w K' Q2 := by
 unfold Oper.wp at *
 generalize (execOp a.eval o).run P w = r at *
 cases r with
 | ok x w' =>
  cases x <;> simp only [Oper.upon] at h ⊢
  case value v => exact hK _ _ h
  case skip => exact hK _ _ h
  case defer d => exact hK _ _ h
  case enter f args =>
   refine h.mono fun e w'' he => ?_
   cases e with
   | returned v => exact hK _ _ he
   | panicked c => exact hq _ _ _ (by simp) he
   | outgrown => obtain ⟨a, w, hp⟩ := he; exact ⟨a, w, hq _ _ _ (by simp) hp⟩
  case row row args => exact h.mono fun v w'' he => hK _ _ he
 | halt x w' =>
  cases x <;> simp only [Oper.upon] at h ⊢
  case panic v => exact hq _ _ _ (by simp) h
theorem wpList_app {P : Program} {ops : Array Oper} {Q1 Q2 : Exit → Act → World → Prop} (l2 : List Oper) (hn : ∀ a w, Q1 .normal a w → wpList P ops Q2 l2 a w) (hq : ∀ e a w, e ≠ .normal → Q1 e a w → Q2 e a w) :
 ∀ (l1 : List Oper) (a : Act) (w : World), wpList P ops Q1 l1 a w → wpList P ops Q2 (l1 ++ l2) a w := by
 intro l1
 induction l1 with
 | nil => intro a w h; exact hn a w h
 | cons o l ih =>
  intro a w h
  rw [cA]
  unfold wpList at h ⊢
  split
  · rename_i hw
    rw [if_pos hw] at h
    rcases h with h | ⟨h1, a', w', h2⟩
    · exact .inl (upon_mono (ops := ops) hq o _ _ a w (fun a w => ih a w) h)
    · exact .inr ⟨h1, a', w', hq _ _ _ (by simp) h2⟩
  · rename_i hw
    rw [if_neg hw] at h
    exact ih _ _ h
theorem wpList_mono' {P : Program} {ops : Array Oper} {Q1 Q2 : Exit → Act → World → Prop} (hq : ∀ e a w, Q1 e a w → Q2 e a w) (l : List Oper) (a : Act) (w : World) (h : wpList P ops Q1 l a w) : wpList P ops Q2 l a w := by
 have := wpList_app (Q2 := Q2) [] (fun a w h => hq _ _ _ h) (fun e a w _ h => hq _ _ _ h) l a w h
 rwa [aN] at this
section
variable {P : Program} {n k : Nat} {Q : Exit → Fr → Store → Prop} {F : Fr} {σ : Store}
theorem zH {c : Code} {L : List (Nat × AV)} {τ : Store} (ht : TellS k F σ L τ) (h : awp P n k c Q (fs L) τ) : awp P n k c Q F σ := by
 intro E a hk hS hF
 obtain ⟨E', h1, h2, h3, h4⟩ := ht.env hk hS hF
 rw [← h1]
 exact wp_mono (h E' a h4.n h2 h3) fun e a w hp => zG1 h4 hp
theorem zo {args : List AV} {c : Code} (L : List (Nat × AV)) (hL : Fits (fr args) L) (h : awp P n k c Q (fs L) σ) : awp P n k c Q (fr args) σ := zH (.same hL rfl) h
theorem zK5 (m : List Nat) {c : Code} (h : awp P n k c Q (fs (zM4 F m)) σ) : awp P n k c Q F σ := zH (.same (fits_keepS F m) rfl) h
theorem rg {T : TT} (hT : TOK P T) (m : List Nat) {id : Nat} {l : List Oper} {y : Code}
 (h : ∀ K : List (Nat × AV) → Store → Prop, (∀ L σ, awp P n k y Q (fs L) σ → K L σ) → Run (zA5 T n l.toArray l F σ) fun l' F' σ' => l' = [] ∧ K (zM4 F' m) σ') : awp P n k (.seq (.region id l.toArray false) y) Q F σ := by
 refine ze fun K hK => zG3 ?_
 have h1 := h (fun L σ' => awp P n k y Q (fs L) σ') fun _ _ h => h
 unfold Run at h1
 split at h1
 · rename_i l' F' σ' he
   obtain ⟨rfl, h2⟩ := h1
   exact opsWp_run hT he (zb (hK _ _ (zK5 m h2)))
 · exact h1.elim
theorem rc (m : List Nat) {id : Nat} {l : List Oper} {y : Code}
 (h : ∀ K : List (Nat × AV) → Store → Prop, (∀ L σ, awp P n k y Q (fs L) σ → K L σ) → zP1 P n k l.toArray l (zQ3 (fun F σ => K (zM4 F m) σ) Q) F σ) : awp P n k (.seq (.region id l.toArray false) y) Q F σ := by
 refine ze fun K hK => zG3 ?_
 have h1 := h (fun L σ' => awp P n k y Q (fs L) σ') fun _ _ h => h
 intro E a hk hS hF
 have := h1 E a hk hS hF
 refine wpList_mono' (fun e a w hp => ?_) _ _ _ this
 obtain ⟨E', F', σ', e1, e2, e3, e4, e5⟩ := hp
 refine ⟨E', F', σ', e1, e2, e3, e4, ?_⟩
 cases e with
 | normal => exact hK _ _ (zK5 m e5)
 | _ => exact e5
theorem rd (m : List Nat) {c y : Code} (h : ∀ K : List (Nat × AV) → Store → Prop, (∀ L σ, awp P n k y Q (fs L) σ → K L σ) → awp P n k c (zQ3 (fun F σ => K (zM4 F m) σ) Q) F σ) : awp P n k (.seq c y) Q F σ := by
 refine ze fun K hK => ?_
 refine zo4 (h (fun L σ' => awp P n k y Q (fs L) σ') fun _ _ h => h) fun e F σ hq => ?_
 cases e with
 | normal => exact hK _ _ (zK5 m hq)
 | _ => exact hq
theorem zk1 {x y : Code} (I : List (Nat × AV) → Store → Prop) (hx : awp P n k x (zQ3 (fun F σ => ∃ L τ, I L τ ∧ TellS k F σ L τ) Q) F σ) (hy : ∀ L τ, I L τ → awp P n k y Q (fs L) τ) : awp P n k (.seq x y) Q F σ := by
 refine ze fun K hK => zo4 hx fun e F σ hq => ?_
 cases e with
 | normal =>
  obtain ⟨L, τ, h1, h2⟩ := hq
  exact hK _ _ (zH h2 (hy L τ h1))
 | _ => exact hq
theorem zp {ops : Array Oper} {l : List Oper} (m : Nat) (I : List (Nat × AV) → Store → Prop) (hx : zP1 P n k ops (l.take m) (fun e F σ => e = .normal ∧ ∃ L τ, I L τ ∧ TellS k F σ L τ) F σ)
 (hy : ∀ L τ, I L τ → zP1 P n k ops (l.drop m) Q (fs L) τ) : zP1 P n k ops l Q F σ := by
 intro E a hk hS hF
 have h1 := hx E a hk hS hF
 have := wpList_app (Q2 := post n k Q E) (l.drop m) (fun a w h => by
  obtain ⟨E', F', σ', e1, e2, e3, e4, _, L, τ, e5, e6⟩ := h
  obtain ⟨E2, g1, g2, g3, g4⟩ := e6.env e4.n e2 e3
  have := hy L τ e5 E2 a g4.n g2 g3
  rw [g1, e1] at this
  exact zT2 (e4.trans g4) _ _ _ this) (fun e a w hne h => by
  obtain ⟨_, _, _, _, _, _, _, h, _⟩ := h
  exact absurd h hne) (l.take m) a E.w h1
 rwa [List.take_append_drop] at this
theorem zw {c : Code} (I : Nat → List (Nat × AV) → Store → Prop) (m : Nat) {L : List (Nat × AV)} {τ : Store} (h0 : I m L τ) (ht : TellS k F σ L τ)
 (round : ∀ m L τ, I m L τ → awp P n k c (zQ3 (fun F' σ' => ∃ m' L' τ', m' < m ∧ I m' L' τ' ∧ TellS k F' σ' L' τ') Q) (fs L) τ) : awp P n k (.loop c) Q F σ := by
 refine awp_loop (fun m F σ => ∃ L τ, I m L τ ∧ TellS k F σ L τ) m ⟨L, τ, h0, ht⟩ ?_
 rintro m F σ ⟨L, τ, h1, h2⟩
 refine zH h2 (zo4 (round m L τ h1) fun e F σ hq => ?_)
 cases e with
 | normal =>
  obtain ⟨m', L', τ', a, b, c⟩ := hq
  exact ⟨m', a, L', τ', b, c⟩
 | _ => exact hq
end
def AV.bnd : AV → Prop
 | .ds _ _ len _ => len ≤ 9223372036854775807
 | .os _ _ _ _ _ len _ => len ≤ 9223372036854775807
 | _ => True
theorem VR.bnd {E : Env} {a : AV} {v : Value} (h : VR E a v) : a.bnd := by
 cases h with
 | dsn => show 0 ≤ _; omega
 | ds _ _ _ _ _ _ _ _ _ _ _ _ hB => exact hB
 | osn => show 0 ≤ _; omega
 | os _ _ _ _ _ _ _ _ _ _ _ _ hB => exact hB
 | _ => trivial
section
variable {P : Program} {n k : Nat} {Q : Exit → Fr → Store → Prop} {F : Fr} {σ : Store}
end
def idxL {α : Type} (l : List α) (i : Int) : Option α := if 0 ≤ i then l[i.toNat]? else none
def grd (p : Prop) [Decidable p] : Option Unit := if p then some () else none
def bnd {α β : Type} (a : α) (f : α → β) : β := f a
def room (n b : Nat) : Option Unit := if n * b ≤ 140737488355328 then some () else none
def setI {α : Type} (l : List α) (i : Int) (x : α) : List α := l.set i.toNat x
theorem zX {σ : Store} {size : Nat} {nl : Bool} {sz id ver off len : Nat} {t : Bool} : zF σ size (.os nl sz id ver off len t) = match Store.at σ id ver with
 | some cs => if off + len * size ≤ cs.length then some (len, (cs.drop off).take (len * size)) else none
 | none => none := rfl
theorem srcCells_s {σ : Store} {size : Nat} {s : List UInt8} : zF σ size (.str s) = if size = 1 then some (s.length, bys s) else none := rfl
theorem bind_some {α β : Type} {o : Option α} {f : α → Option β} {r : β} (h : o.bind f = some r) : ∃ x, o = some x ∧ f x = some r := by
 cases o with
 | none => cases h
 | some x => exact ⟨x, rfl, h⟩
theorem zJ {α β : Type} {a : α} {f : α → β} {r : β} (h : bnd a f = r) : ∃ x, a = x ∧ f x = r := ⟨a, rfl, h⟩
theorem zL1 {p : Prop} [Decidable p] {u : Unit} (h : grd p = some u) : p := by
 unfold grd at h
 split at h
 · assumption
 · cases h
theorem zQ {n b : Nat} {u : Unit} (h : room n b = some u) : (n * b ≤ 140737488355328) = True := by
 unfold room at h
 split at h
 · rename_i hb; exact eq_true hb
 · cases h
theorem zt1 {α : Type} {l : List α} {i : Int} {x : α} (h : idxL l i = some x) : 0 ≤ i ∧ i < l.length ∧ ∃ hi : i.toNat < l.length, l[i.toNat] = x := by
 unfold idxL at h
 split at h
 · obtain ⟨hi, e⟩ := List.getElem?_eq_some_iff.1 h
   exact ⟨by assumption, by omega, hi, e⟩
 · cases h
theorem if_F {α : Type} {b : Bool} {x y : α} (h : b = false) : (if b = true then x else y) = y := by rw [h]; rfl
theorem zK {α : Type} {l pre post : List α} {y : α} {i : Int} (hE : l = pre ++ y :: post) (hi : i = (pre.length : Int)) (hb : l.length ≤ 9223372036854775807) :
 (i < (l.length : Int)) = True ∧ IntKind.i64.wrap (i + 1) = i + 1 ∧ idxL l i = some y ∧ l = (pre ++ [y]) ++ post ∧ i + 1 = ((pre ++ [y]).length : Int) := by
 have hl : l.length = pre.length + (post.length + 1) := by rw [hE]; simp
 refine ⟨eq_true (by omega), zW (by omega) (by omega), ?_, by rw [hE]; simp, by rw [hi]; simp⟩
 unfold idxL
 rw [if_pos (by omega), hi, Int.toNat_natCast, hE]
 simp
theorem zN {α : Type} {l pre : List α} {i : Int} (hE : l = pre ++ []) (hi : i = (pre.length : Int)) : (i < (l.length : Int)) = False := by
 have hl : l.length = pre.length := by rw [hE]; simp
 exact eq_false (by omega)
section
variable {T : TT} {t e sz : Nat} {α : Type} {enc : α → List AV}
theorem Enc.idxS (h : Enc T t e sz enc) {l : List α} {i : Int} {x : α} (hx : idxL l i = some x) (nl tt : Bool) (q : IntKind) : zl1 T t (.ds nl (l.flatMap enc) l.length tt) (.int q i) = some (.dp (l.flatMap enc) (i.toNat * sz)) := by
 obtain ⟨h0, h1, _⟩ := zt1 hx
 exact h.idx h0 h1 nl tt q
theorem Enc.loadS (h : Enc T t e sz enc) {j : TI} (hj : T e = some j) (hag : j.agg = true) {l : List α} {i : Int} {x : α} (hx : idxL l i = some x) (σ : Store) : zJ1 T e (.dp (l.flatMap enc) (i.toNat * sz)) σ = some (.agg (enc x)) := by
 obtain ⟨_, _, h2, h3⟩ := zt1 hx
 rw [h.load hj hag h2, h3]
theorem Enc.fldS (h : Enc T t e sz enc) {f : Nat} {j : TI} (hj : T f = some j) (hag : j.agg = false) {l : List α} {i : Int} {x : α} (hx : idxL l i = some x) {o : Nat} (ho : o < sz) (σ : Store) : zJ1 T f (.dp (l.flatMap enc) (i.toNat * sz + o)) σ = some (gc (enc x) o) := by
 obtain ⟨_, _, h2, h3⟩ := zt1 hx
 rw [h.fld hj hag h2 ho, h3]
theorem Enc.fldS0 (h : Enc T t e sz enc) {f : Nat} {j : TI} (hj : T f = some j) (hag : j.agg = false) {l : List α} {i : Int} {x : α} (hx : idxL l i = some x) (σ : Store) : zJ1 T f (.dp (l.flatMap enc) (i.toNat * sz)) σ = some (gc (enc x) 0) := by
 obtain ⟨_, _, h2, h3⟩ := zt1 hx
 rw [h.fld0 hj hag h2, h3]
end
end AM
end Go.Proofs.YtaddlmlpeghonaaDoor
end
section
namespace Go.Proofs.YtaddlmlpeghonaaDoor
namespace AM
open Go.RowKit
section
variable {P : Program} {n k : Nat} {Q : Exit → Fr → Store → Prop} {F : Fr} {σ : Store}
theorem rdE (m : List Nat) {c : Code} (h : ∀ K : List (Nat × AV) → Store → Prop, (∀ L σ, Q .normal (fs L) σ → K L σ) → awp P n k c (zQ3 (fun F σ => K (zM4 F m) σ) Q) F σ) : awp P n k c Q F σ := by
 have h1 := h (fun L σ => Q .normal (fs L) σ) fun _ _ h => h
 intro E a hk hS hF
 refine wp_mono (h1 E a hk hS hF) fun e a w hp => ?_
 obtain ⟨E', F', σ', e1, e2, e3, e4, e5⟩ := hp
 cases e with
 | normal => exact ⟨E', fs (zM4 F' m), σ', e1, e2, e3.fits (fits_keepS F' m), e4, e5⟩
 | _ => exact ⟨E', F', σ', e1, e2, e3, e4, e5⟩
theorem rgE {T : TT} (hT : TOK P T) (m : List Nat) {id : Nat} {l : List Oper}
 (h : ∀ K : List (Nat × AV) → Store → Prop, (∀ L σ, Q .normal (fs L) σ → K L σ) → Run (zA5 T n l.toArray l F σ) fun l' F' σ' => l' = [] ∧ K (zM4 F' m) σ') : awp P n k (.region id l.toArray false) Q F σ :=
 rdE m fun K hK => regEnd hT (h K hK)
theorem rcE (m : List Nat) {id : Nat} {l : List Oper}
 (h : ∀ K : List (Nat × AV) → Store → Prop, (∀ L σ, Q .normal (fs L) σ → K L σ) → zP1 P n k l.toArray l (zQ3 (fun F σ => K (zM4 F m) σ) Q) F σ) : awp P n k (.region id l.toArray false) Q F σ :=
 rdE m fun K hK => zG3 (h K hK)
theorem zw2 {c : Code} (t sz : Nat) {nl : Bool} {L : List (Nat × AV)} (ht : fs L t = .ds nl [] 0 true) (h : awp P n k c Q (fs ((t, .os true sz σ.length 0 0 0 false) :: L)) (σ ++ [.cells 0 []])) : awp P n k c Q (fs L) σ :=
 awp_virt t sz ht h
end
theorem zW3 {P : Program} {n k : Nat} {Q : Exit → Fr → Store → Prop} {F : Fr} {σ : Store} {c : Code} (id i sz : Nat) {cs : List AV} (hcs : Store.at σ id 0 = some cs) (hi : i < cs.length) {nl : Bool} (hc : gc cs i = .ds nl [] 0 true)
 {L : List (Nat × AV)} {τ : Store} (ht : TellS k F ((σ.set id (.cells 0 (cs.set i (.os true sz σ.length 0 0 0 false)))) ++ [.cells 0 []]) L τ) (h : awp P n k c Q (fs L) τ) : awp P n k c Q F σ :=
 awp_virtIn hcs hi hc sz (zH ht h)
theorem zb4 {P : Program} {n k : Nat} {Q : Exit → Fr → Store → Prop} {F : Fr} {σ : Store} {ops : Array Oper} {l : List Oper} {L : List (Nat × AV)} {τ : Store} (ht : TellS k F σ L τ) (h : zP1 P n k ops l Q (fs L) τ) : zP1 P n k ops l Q F σ := by
 intro E a hk hS hF
 obtain ⟨E', h1, h2, h3, h4⟩ := ht.env hk hS hF
 rw [← h1]
 exact zT2 h4 _ _ _ (h E' a h4.n h2 h3)
mutual
def AV.deep : AV → Prop
 | .ds _ cs len _ => len ≤ 9223372036854775807 ∧ deepL cs
 | .agg cs => deepL cs
 | .os _ _ _ _ _ len _ => len ≤ 9223372036854775807
 | _ => True
def deepL : List AV → Prop
 | [] => True
 | a :: l => a.deep ∧ deepL l
end
theorem deepL_of : ∀ {cs : List AV}, (∀ i, i < cs.length → (gc cs i).deep) → deepL cs := by
 intro cs
 induction cs with
 | nil => intro _; trivial
 | cons a l ih => exact fun h => ⟨h 0 (by simp), ih fun i hi => by simpa [gc] using h (i + 1) (by simpa using hi)⟩
theorem VR.deep {E : Env} {a : AV} {v : Value} (h : VR E a v) : a.deep := by
 induction h with
 | ds _ _ _ _ _ _ _ _ _ _ _ _ hB ih => exact ⟨hB, deepL_of ih⟩
 | dsn => exact ⟨by omega, trivial⟩
 | agg cs vs hl _ ih => exact deepL_of ih
 | os _ _ _ _ _ _ _ _ _ _ _ _ hB => exact hB
 | osn => show 0 ≤ _; omega
 | _ => trivial
theorem deepL_append {a b : List AV} : deepL (a ++ b) → deepL a ∧ deepL b := by
 induction a with
 | nil => exact fun h => ⟨trivial, h⟩
 | cons x a ih => exact fun h => ⟨⟨h.1, (ih h.2).1⟩, (ih h.2).2⟩
theorem deepL_mem {α : Type} {enc : α → List AV} : ∀ {l : List α}, deepL (l.flatMap enc) → ∀ {y : α}, y ∈ l → deepL (enc y)
 | [], _, y, hm => by cases hm
 | x :: l, h, y, hm => by
  rw [fC] at h
  obtain ⟨h1, h2⟩ := deepL_append h
  rcases mI.1 hm with rfl | hm
  · exact h1
  · exact deepL_mem h2 hm
theorem zF5 {α : Type} {enc : α → List AV} {l : List α} (h : deepL (l.flatMap enc)) {i : Int} {y : α} (hx : idxL l i = some y) : deepL (enc y) := by
 obtain ⟨_, _, hi, he⟩ := zt1 hx
 exact deepL_mem h (he ▸ List.getElem_mem hi)
theorem zO {P : Program} {n k : Nat} {Q : Exit → Fr → Store → Prop} {F : Fr} {σ : Store} (t : Nat) {c : Code} (h : (F t).deep → awp P n k c Q F σ) : awp P n k c Q F σ := fun E a hk hS hF => h (hF.tmps t).deep E a hk hS hF
theorem zK1 {P : Program} {n k : Nat} {Q : Exit → Fr → Store → Prop} {F : Fr} {σ : Store} (id : Nat) {ver : Nat} {cs : List AV} (hi : σ[id]? = some (.cells ver cs)) {c : Code} (h : deepL cs → awp P n k c Q F σ) : awp P n k c Q F σ := fun E a hk hS hF => by
 refine h ?_ E a hk hS hF
 have ho := hS.obj id
 rw [hi] at ho
 rcases ho with ⟨b, _, hb⟩ | ⟨rfl, _⟩
 · refine deepL_of fun i hi => ?_
   obtain ⟨v, _, hv⟩ := hb.cell i hi
   exact hv.deep
 · trivial
def rounds : Nat := 1000000000000000000000
class CanonE {α : Type} (enc : α → List AV) : Prop where
 h : ∀ s x, canonL s (enc x) = true
theorem canon_all {α : Type} (enc : α → List AV) [hc : CanonE enc] (s : Bool) (l : List α) : canonL s (l.flatMap enc) = true := canonL_flatMap s enc (hc.h s) l
theorem zy {α : Type} {enc : α → List AV} [hc : CanonE enc] {σ : Store} {keep : List Nat} {ls : Bool} {f : Nat} (l : List α) : (l.flatMap enc).map (tell σ keep ls f) = l.flatMap enc := tell_canonL σ keep ls _ f (canon_all enc ls l)
def encBo (x : Bool) : List AV := [.bool x]
def encK (k : IntKind) (n : Int) : List AV := [.int k n]
def encSl {α : Type} (enc : α → List AV) (x : List α) : List AV := [.ds true (x.flatMap enc) x.length false]
instance (k : IntKind) : CanonE (encK k) := ⟨fun _ _ => rfl⟩
instance : CanonE encI := ⟨fun _ _ => rfl⟩
instance : CanonE encS := ⟨fun _ _ => rfl⟩
instance : CanonE encB := ⟨fun _ _ => rfl⟩
instance : CanonE encBo := ⟨fun _ _ => rfl⟩
instance {α : Type} (enc : α → List AV) [CanonE enc] : CanonE (encSl enc) := ⟨fun s x => by simp [encSl, canonL, AV.canon, canon_all]⟩
class LenE {α : Type} (enc : α → List AV) (sz : Nat) : Prop where
 h : ∀ x, (enc x).length = sz
instance (k : IntKind) : LenE (encK k) 1 := ⟨fun _ => rfl⟩
instance : LenE encI 1 := ⟨fun _ => rfl⟩
instance : LenE encS 1 := ⟨fun _ => rfl⟩
instance : LenE encB 1 := ⟨fun _ => rfl⟩
instance : LenE encBo 1 := ⟨fun _ => rfl⟩
instance {α : Type} (enc : α → List AV) : LenE (encSl enc) 1 := ⟨fun _ => rfl⟩
theorem osE1 {α : Type} {enc : α → List AV} {sz : Nat} [h : LenE enc sz] (l : List α) : (l.length * sz ≤ (l.flatMap enc).length) = True := eq_true (by rw [zr h.h]; exact nR _)
theorem osE2 {α : Type} {enc : α → List AV} {sz : Nat} [h : LenE enc sz] (l : List α) : (l.flatMap enc).take (l.length * sz) = l.flatMap enc := List.take_of_length_le (by rw [zr h.h]; exact nR _)
class OneE {α : Type} (enc : α → List AV) : Prop where
 h : ∀ x, (enc x).all AV.one = true
theorem zl2 {α : Type} (enc : α → List AV) [hc : OneE enc] (l : List α) : (l.flatMap enc).all AV.one = true := by
 induction l with
 | nil => rfl
 | cons x l ih => rw [fC, List.all_append, hc.h, ih]; rfl
instance (k : IntKind) : OneE (encK k) := ⟨fun _ => rfl⟩
instance : OneE encI := ⟨fun _ => rfl⟩
instance : OneE encS := ⟨fun _ => rfl⟩
instance : OneE encB := ⟨fun _ => rfl⟩
instance : OneE encBo := ⟨fun _ => rfl⟩
instance {α : Type} (enc : α → List AV) : OneE (encSl enc) := ⟨fun _ => rfl⟩
def cutL {α : Type} (l : List α) (a b : Int) : List α := (l.drop a.toNat).take (b.toNat - a.toNat)
theorem cutL_len {α : Type} {l : List α} {a b : Int} (h : 0 ≤ a ∧ a ≤ b ∧ b ≤ (l.length : Int)) : (cutL l a b).length = b.toNat - a.toNat := by
 unfold cutL; rw [List.length_take, List.length_drop]; omega
section
variable {T : TT} {t e sz : Nat} {α : Type} {enc : α → List AV}
theorem cut_enc (h : ∀ x, (enc x).length = sz) (l : List α) (a b : Nat) : zk3 (l.flatMap enc) sz a b = ((l.drop a).take (b - a)).flatMap enc := by
 unfold zk3; rw [enc_drop h, enc_take h]
theorem Enc.sl_lh (h : Enc T t e sz enc) {l : List α} {a b : Int} (hg : 0 ≤ a ∧ a ≤ b ∧ b ≤ (l.length : Int)) (q q' : IntKind) :
 zD1 T t (.ds true (l.flatMap enc) l.length false) (some (.int q a)) (some (.int q' b)) none = some (.ds true ((cutL l a b).flatMap enc) (cutL l a b).length false) := by
 obtain ⟨i, hi, hd⟩ := h.sl
 obtain ⟨j, hj, hs⟩ := h.el
 simp only [zD1, hi, hd, hj, optI, hs]
 rw [if_pos hg, cutL_len hg, cut_enc h.len]
 simp [cutL]
theorem str_lo {i : TI} (hi : T t = some i) (hd : i.desc = .string) {l : List UInt8} {a : Int} (hg : 0 ≤ a ∧ a ≤ (l.length : Int) ∧ (l.length : Int) ≤ (l.length : Int)) (q : IntKind) :
 zD1 T t (.str l) (some (.int q a)) none none = some (.str (cutL l a l.length)) := by
 simp only [zD1, hi, hd, optI]
 rw [if_pos hg]; rfl
theorem zm4 {src dst u : Nat} {i k j : TI} (hi : T src = some i) (hk : T dst = some k) (hd : i.desc = .slice u) (hks : k.desc = .string) (hj : T u = some j) (hjd : j.desc = .int .u8) (l : List UInt8) (nl tt : Bool) (σ : Store) :
 zi3 T src dst (.ds nl (l.flatMap encB) l.length tt) σ = some (.str l, σ) := by
 have h1 := zo1 (enc := encB) (sz := 1) (fun _ => rfl) l nl tt σ
 rw [← zd3] at h1 ⊢
 simp only [zi3, hi, hk, hd, hks, hj, hjd, h1, unbs_bys, Option.map_some]
theorem zb1 {src dst : Nat} {i k : TI} {q : IntKind} (hi : T src = some i) (hk : T dst = some k) (hd : k.desc = .int q) (p : IntKind) (n : Int) (σ : Store) : zi3 T src dst (.int p n) σ = some (.int q (q.wrap n), σ) := by
 simp only [zi3, hi, hk, hd]
theorem conv_s2b {src dst u : Nat} {i k j : TI} (hi : T src = some i) (hk : T dst = some k) (hd : k.desc = .slice u) (hj : T u = some j) (hjd : j.desc = .int .u8) (hjs : j.size = 1) {l : List UInt8} (hl : l.length ≤ 9223372036854775807) (σ : Store) :
 zi3 T src dst (.str l) σ = some (.os true 1 σ.length 0 0 l.length false, σ ++ [.cells 0 (l.flatMap encB)]) := by
 simp only [zi3, hi, hk, hd, hj, hjd]
 rw [if_pos ⟨hl, hjs⟩, zd3]
end
theorem zr4 (x : Int) : (((UInt8.ofNat (Int.toNat (IntKind.u8.wrap x))).toNat : Nat) : Int) = IntKind.u8.wrap x := by
 have h0 : 0 ≤ IntKind.u8.wrap x ∧ IntKind.u8.wrap x < 256 := by
  simp only [IntKind.wrap, IntKind.signed, IntKind.bits]
  simp
  omega
 rw [UInt8.toNat_ofNat']
 omega
end AM
end Go.Proofs.YtaddlmlpeghonaaDoor
end
section
namespace Go.Proofs.YtaddlmlpeghonaaDoor
namespace AM
open Go.RowKit
structure KeyE {K : Type} [DecidableEq K] (T : TT) (kt : TypeId) (ek : K → AV) : Prop where
 h : ∃ ik l, ∃ kc : K → List AV, T kt = some ik ∧ cellsD T 20 kt = some l ∧ (∀ k : K, kCells ik (ek k) = some (kc k) ∧ (kc k).length = ik.size) ∧ ∀ a b : K, ceqL l (kc a) (kc b) = some (decide (a = b))
theorem KeyE.str {T : TT} {kt : TypeId} {ik : TI} (h1 : T kt = some ik) (h2 : cellsD T 20 kt = some [.string]) (h3 : ik.agg = false) (h4 : ik.size = 1) : KeyE T kt AV.str := by
 refine ⟨ik, _, fun k => [.str k], h1, h2, fun k => ⟨by simp [kCells, h3], by simp [h4]⟩, fun a b => ?_⟩
 simp [ceqL, ceq]
theorem KeyE.int {T : TT} {kt : TypeId} {ik : TI} {q : IntKind} (h1 : T kt = some ik) (h2 : cellsD T 20 kt = some [.int q]) (h3 : ik.agg = false) (h4 : ik.size = 1) : KeyE T kt (AV.int q) := by
 refine ⟨ik, _, fun k => [.int q k], h1, h2, fun k => ⟨by simp [kCells, h3], by simp [h4]⟩, fun a b => ?_⟩
 simp [ceqL, ceq]
section
variable {K V : Type}
def encM (ek : K → AV) (ev : V → AV) (M : List (K × V)) : List (AV × AV) := M.map fun p => (ek p.1, ev p.2)
def getM [DecidableEq K] : List (K × V) → K → Option V
 | [], _ => none
 | (a, v) :: l, k => if k = a then some v else getM l k
def setM [DecidableEq K] : List (K × V) → K → V → List (K × V)
 | [], k, v => [(k, v)]
 | (a, w) :: l, k, v => if k = a then (k, v) :: l else (a, w) :: setM l k v
theorem find_M [DecidableEq K] {ek : K → AV} {ev : V → AV} {ik : TI} {l : List TypeDesc} {kc : K → List AV} (h1 : ∀ k : K, kCells ik (ek k) = some (kc k) ∧ (kc k).length = ik.size) (h2 : ∀ a b : K, ceqL l (kc a) (kc b) = some (decide (a = b))) (k : K) : ∀ (M : List (K × V)) (n : Nat),
 (zh2 l ik (kc k) (encM ek ev M) n = some none ∧ getM M k = none ∧ ∀ b, setM M k b = M ++ [(k, b)]) ∨
 (∃ i v, zh2 l ik (kc k) (encM ek ev M) n = some (some (n + i, ev v)) ∧ getM M k = some v ∧ ∀ b, setM M k b = M.set i (k, b)) := by
 intro M
 induction M with
 | nil => intro n; exact .inl ⟨rfl, rfl, fun b => rfl⟩
 | cons e M ih =>
  intro n
  obtain ⟨a, w⟩ := e
  have e1 : zh2 l ik (kc k) (encM ek ev ((a, w) :: M)) n = bif decide (k = a) then some (some (n, ev w)) else zh2 l ik (kc k) (encM ek ev M) (n + 1) := by
   simp only [encM, mC, zh2, (h1 a).1, h2 k a]
  rw [e1]
  by_cases h : k = a
  · refine .inr ⟨0, w, by simp [h], by simp [getM, h], fun b => by simp [setM, h]⟩
  · simp only [h, decide_false, cond_false, getM, setM, if_false]
    rcases ih (n + 1) with ⟨a1, a2, a3⟩ | ⟨i, v, a1, a2, a3⟩
    · exact .inl ⟨a1, a2, fun b => by rw [a3]; rfl⟩
    · refine .inr ⟨i + 1, v, ?_, a2, fun b => by rw [a3]; rfl⟩
      rw [a1]; congr 3; omega
theorem zQ4 [DecidableEq K] {T : TT} {t kt et : TypeId} {ek : K → AV} {ev : V → AV} {z : V} {i ie : TI} (hk : KeyE T kt ek) (h1 : T t = some i) (h2 : i.desc = .map kt et) (h3 : T et = some ie) (h4 : ie.zero = ev z) (M : List (K × V)) (k : K) (ok : Bool) (σ : Store) (id : Nat) (hm : Store.mapAt σ id = some (encM ek ev M)) :
 zA2 T t (.mp id) (ek k) ok σ = some (zK3 ok (ev ((getM M k).getD z)) (getM M k).isSome) := by
 obtain ⟨ik, l, kc, a1, a2, a3, a4⟩ := hk.h
 simp only [zA2, h1, h2, a1, h3, a2, (a3 k).1, (a3 k).2, if_true, hm]
 rcases find_M a3 a4 k M 0 with ⟨b1, b2, _⟩ | ⟨j, v, b1, b2, _⟩
 · rw [b1, b2]; simp [h4]
 · rw [b1, b2]; simp
theorem zO4 [DecidableEq K] {T : TT} {t kt et : TypeId} {ek : K → AV} {ev : V → AV} {i : TI} (hk : KeyE T kt ek) (h1 : T t = some i) (h2 : i.desc = .map kt et) (M : List (K × V)) (k : K) (v : V) (σ : Store) (id : Nat) (hm : Store.mapAt σ id = some (encM ek ev M)) :
 ze2 T t (.mp id) (ek k) (ev v) σ = some (σ.set id (.map (encM ek ev (setM M k v)))) := by
 obtain ⟨ik, l, kc, a1, a2, a3, a4⟩ := hk.h
 simp only [ze2, h1, h2, a1, a2, (a3 k).1, (a3 k).2, if_true, hm]
 rcases find_M a3 a4 k M 0 with ⟨b1, _, b2⟩ | ⟨j, w, b1, _, b2⟩
 · rw [b1, b2]; simp [encM]
 · rw [b1, b2]; simp [encM, List.map_set]
class CanonV (ev : V → AV) : Prop where
 h : ∀ s x, (ev x).canon s = true
theorem encM_tell {ek : K → AV} {ev : V → AV} [h1 : CanonV ek] [h2 : CanonV ev] {σ : Store} {keep : List Nat} {ls : Bool} {f : Nat} (M : List (K × V)) :
 ((encM ek ev M).map fun e => (tell σ keep ls f e.1, tell σ keep ls f e.2)) = encM ek ev M := by
 unfold encM
 rw [List.map_map]
 exact List.map_congr_left fun p _ => by simp only [Function.comp, tell_canon _ _ _ _ _ (h1.h ls p.1), tell_canon _ _ _ _ _ (h2.h ls p.2)]
end
instance : CanonV AV.str := ⟨fun _ _ => rfl⟩
instance : CanonV AV.bool := ⟨fun _ _ => rfl⟩
instance (q : IntKind) : CanonV (AV.int q) := ⟨fun _ _ => rfl⟩
def zO3 : AObj → Bool
 | .cells _ cs => canonL true cs
 | .map es => es.all fun e => e.1.canon true && e.2.canon true
 | .iter _ _ => true
 | .dead => true
theorem canonO_map {K V : Type} {ek : K → AV} {ev : V → AV} [h1 : CanonV ek] [h2 : CanonV ev] (M : List (K × V)) : zO3 (.map (encM ek ev M)) = true := by
 simp only [zO3, encM, List.all_map, List.all_eq_true]
 intro p _
 simp [h1.h true p.1, h2.h true p.2]
theorem renL_E {α : Type} {enc : α → List AV} [hc : CanonE enc] {g : Nat → Nat} (x : α) : renL g (enc x) = enc x := renL_canon g (s := true) _ (hc.h true x)
theorem renL_all {α : Type} {enc : α → List AV} [hc : CanonE enc] {g : Nat → Nat} (l : List α) : renL g (l.flatMap enc) = l.flatMap enc := renL_canon g (s := true) _ (canon_all enc true l)
theorem zH4 {ver : Nat} {cs : List AV} : zO3 (.cells ver cs) = canonL true cs := rfl
theorem renO_canon (g : Nat → Nat) : ∀ (o : AObj), zO3 o = true → renO g o = o
 | .cells v cs, h => by simp only [renO, renL_canon g cs h]
 | .map es, h => by
  simp only [zO3, List.all_eq_true, Bool.and_eq_true] at h
  simp only [renO]
  congr 1
  conv => rhs; rw [← List.map_id es]
  exact List.map_congr_left fun e he => by rw [ren_canon g e.1 (h e he).1, ren_canon g e.2 (h e he).2]; rfl
 | .iter _ _, _ => rfl
 | .dead, _ => rfl
def putI : List Nat → Store → Store → Store
 | id :: ids, o :: l, σ => putI ids l (σ.set id o)
 | _, _, σ => σ
theorem zE4 (g : Nat → Nat) : ∀ (ids : List Nat) (l σ : Store), ids.length = l.length → l.all zO3 = true → zJ2 g ids l σ = putI ids l σ
 | [], [], σ, _, _ => by simp [zJ2, putI]
 | [], _ :: _, _, h, _ => by simp at h
 | _ :: _, [], _, h, _ => by simp at h
 | id :: ids, o :: l, σ, h, hc => by
  simp only [List.all_cons, Bool.and_eq_true] at hc
  simp only [zJ2, putI, renO_canon g o hc.1]
  exact zE4 g ids l _ (by simpa using h) hc.2
theorem ACalls.io {P : Program} {f : FuncId} {args : List AV} {x : AV} {σs τs : Store} (h : ACalls P f args σs fun r' σ' => r' = x ∧ σ' = τs) {σ : Store} (ids : List Nat) (hn : ids.Nodup) (hlt : ∀ id ∈ ids, id < σ.length)
 (hobj : ids.map (fun id => σ[id]?) = σs.map some) (hs : σs.all zO3 = true) (ht : τs.all zO3 = true) (hl : ids.length = τs.length) (hx : x.canon true = true) {args' : List AV} (ha : renL (zJ5 ids σ.length) args = args') :
 ACalls P f args' σ fun r' σ' => r' = x ∧ σ' = putI ids τs σ := by
 refine (h.embed ids hn hlt ?_ ha).mono ?_
 · rw [hobj]
   exact List.map_congr_left fun o ho => by rw [renO_canon _ o (List.all_eq_true.1 hs o ho)]
 · rintro r σ' ⟨r0, τ, ⟨rfl, rfl⟩, rfl, rfl⟩
   exact ⟨ren_canon _ _ hx, zE4 _ _ _ _ hl ht⟩
theorem ACalls.own0 {P : Program} {f : FuncId} {args : List AV} {sz n : Nat} {cs : List AV} (hc : canonL true cs = true) (h : ACalls P f args [] fun r' σ' => ∃ ver, r' = .os true sz 0 ver 0 n false ∧ σ' = [.cells ver cs]) :
 ACalls P f args [] fun r' σ' => r' = .os true sz 0 0 0 n false ∧ σ' = [.cells 0 cs] := by
 refine ⟨h.1, fun E vs hS hl => (h.2 E vs hS hl).mono ?_⟩
 rintro e w ⟨v, r, σ', E1, rfl, rfl, h3, h4, h5, ver, rfl, rfl⟩
 let E2 : Env := { w := E1.w, st := E1.st, loc := fun i => if i = 0 then (E1.loc 0).map fun p => (0, p.2) else E1.loc i, n := E1.n }
 have hn : E.n = 0 := hS.len.symm
 have l1 : ∀ i v b, E2.loc i = some (v, some b) → ∃ v', E1.loc i = some (v', some b) := by
  intro i v b h
  by_cases hi : i = 0
  · subst hi
    have h' : (E1.loc 0).map (fun p => ((0 : Nat), p.2)) = some (v, some b) := h
    cases h0 : E1.loc 0 with
    | none => rw [h0] at h'; cases h'
    | some p =>
     rw [h0] at h'
     obtain ⟨q, ob⟩ := p
     simp only [Option.map_some, sI, Prod.mk.injEq] at h'
     exact ⟨q, by rw [h'.2]⟩
  · have h' : (if i = 0 then (E1.loc 0).map (fun p => ((0 : Nat), p.2)) else E1.loc i) = some (v, some b) := h
    rw [if_neg hi] at h'
    exact ⟨v, h'⟩
 have hok : E2.ok 0 0 := ⟨by have := h4.len; show 0 < E1.n; simp at this; omega, fun _ _ _ => Nat.zero_le _⟩
 have l0 : ∀ ob, E2.loc 0 = some (0, ob) → ∃ v', E1.loc 0 = some (v', ob) := by
  intro ob h
  have h' : (E1.loc 0).map (fun p => ((0 : Nat), p.2)) = some (0, ob) := h
  cases h0 : E1.loc 0 with
  | none => rw [h0] at h'; cases h'
  | some p =>
   rw [h0] at h'
   obtain ⟨q, ob'⟩ := p
   simp only [Option.map_some, sI, Prod.mk.injEq, true_and] at h'
   exact ⟨q, by rw [h']⟩
 have hobj := h4.obj 0
 have hver : ∀ v' ob, E1.loc 0 = some (v', ob) → v' = ver := by
  intro v' ob h
  rcases hobj with ⟨b, e1, _⟩ | ⟨_, e1⟩
  · rw [e1] at h; cases h; rfl
  · rw [e1] at h; cases h; rfl
 have hx : Ext E E2 := {
  os := h5.os
  tape := h5.tape
  output := h5.output
  size := h5.size
  shape := h5.shape
  st := h5.st
  n := h5.n
  loc := fun id hid => absurd hid (by omega)
  old := h5.old
  own := fun id v b hb hlt => by
   obtain ⟨v', h'⟩ := l1 id v b hb
   exact h5.own id v' b h' hlt
  stn := h5.stn }
 refine ⟨v, _, _, E2, rfl, rfl, ?_, ?_, hx, rfl, rfl⟩
 · cases h3 with
   | osn _ _ _ _ _ a hk h =>
    refine .osn _ _ _ _ _ a hok fun ob hob => ?_
    obtain ⟨v', h'⟩ := l0 ob hob
    have := hver _ _ h'; subst this
    exact h ob h'
   | os _ _ _ _ _ _ _ a cap hk hc ht hB h =>
    refine .os _ _ _ _ _ _ _ a cap hok hc ht hB fun ob hob => ?_
    obtain ⟨v', h'⟩ := l0 ob hob
    have := hver _ _ h'; subst this
    exact h ob h'
 · refine ⟨h4.len, fun i => ?_, fun i i' v v' b h1 h2 => ?_, fun i v b h1 => ?_, h4.stb, h4.glb⟩
   · match i with
     | 0 =>
      rcases hobj with ⟨b, e1, conc, t, fr, a1, a2, a3, a4⟩ | ⟨e0, e1⟩
      · refine .inl ⟨b, by show (E1.loc 0).map _ = _; rw [e1]; rfl, conc, t, fr, a1, a2, a3, fun i hi => ?_⟩
        exact VR.canonRenL (E := E1) (E' := E2) rfl (fun _ h => h) cs hc i hi (a4 i hi)
      · exact .inr ⟨e0, by show (E1.loc 0).map _ = _; rw [e1]; rfl⟩
     | i + 1 => exact h4.obj (i + 1)
   · obtain ⟨w1, g1⟩ := l1 _ _ _ h1
     obtain ⟨w2, g2⟩ := l1 _ _ _ h2
     exact h4.inj _ _ _ _ _ g1 g2
   · obtain ⟨w1, g1⟩ := l1 _ _ _ h1
     exact h4.blk _ _ _ g1
theorem ACalls.ownData {P : Program} {f : FuncId} {args : List AV} {sz n : Nat} {cs : List AV} (h : ACalls P f args [] fun r' σ' => r' = .os true sz 0 0 0 n false ∧ σ' = [.cells 0 cs]) (hl : cs.length = n * sz) (hc : canonL true cs = true) :
 ACalls P f args [] fun r' _ => r' = .ds true cs n false := by
 refine ACalls.told (h.mono ?_)
 rintro r σ' ⟨rfl, rfl⟩
 refine ⟨[], true, 12, List.nodup_nil, (fun _ h => by cases h), rfl, ?_⟩
 have h1 : cs.map (tell [.cells 0 cs] [] true 11) = cs := tell_canonL _ _ _ _ _ hc
 simp only [zT1, zC1, Store.at_hd, if_true, dZ, ← hl, List.take_length, h1, nZ, nR]
theorem ACalls.ownAt0 {P : Program} {f : FuncId} {args : List AV} {sz n : Nat} {cs : List AV} (h : ACalls P f args [] fun r' σ' => r' = .os true sz 0 0 0 n false ∧ σ' = [.cells 0 cs]) (ha : canonL true args = true) (hc : canonL true cs = true) (σ : Store) :
 ACalls P f args σ fun r' σ' => r' = .os true sz σ.length 0 0 n false ∧ σ' = σ ++ [.cells 0 cs] := by
 refine (h.embed (σ := σ) [] List.nodup_nil (fun _ h => by cases h) rfl (renL_canon _ _ ha)).mono ?_
 rintro r σ' ⟨r0, τ, ⟨rfl, rfl⟩, rfl, rfl⟩
 exact ⟨by simp [AV.ren, zJ5], by simp [zJ2, renO, renL_canon _ _ hc]⟩
theorem zp2 {P : Program} {T : TT} (hT : TOK P T) {f : FuncId} {fn : Func} {c : Code} {n : Nat} {rs : List ResultVar} {args : List AV} {sz N : Nat} {cs : List AV} (hf : P.funcs[f]? = some fn) (hb : fn.body = some c)
 (hn : fn.ntmps = n) (hr : fn.results.toList = rs) (hent : ∀ vs w, (callFunc f vs).run P w = .ok (.enter f vs) w) (hl : args.length ≤ n)
 (h : awp P n 0 c (retQ T rs fun r σ' => ∃ id ver, id < σ'.length ∧ tell σ' [id] true 12 r = .os true sz 0 ver 0 N false ∧ tellS σ' [id] true 12 = [.cells ver cs]) (fr args) []) :
 ACalls P f args [] fun r' σ' => ∃ ver, r' = .os true sz 0 ver 0 N false ∧ σ' = [.cells ver cs] := by
 refine ACalls.told ((zQ1 (σ := []) hT hf hb hn hr hent hl h).mono ?_)
 rintro r σ' ⟨id, ver, h1, h2, h3⟩
 exact ⟨[id], true, 12, by simp, by simpa using h1, rfl, ver, h2, h3⟩
section
variable {P : Program} {n k : Nat} {Q : Exit → Fr → Store → Prop} {F : Fr} {σ : Store}
theorem awp_loopS1 {c : Code} (I : Nat → List (Nat × AV) → Store → Prop) (M : Nat)
 (first : awp P n k c (zQ3 (fun F' σ' => ∃ m' L' τ', m' < M ∧ I m' L' τ' ∧ TellS k F' σ' L' τ') Q) F σ)
 (round : ∀ m L τ, I m L τ → awp P n k c (zQ3 (fun F' σ' => ∃ m' L' τ', m' < m ∧ I m' L' τ' ∧ TellS k F' σ' L' τ') Q) (fs L) τ) : awp P n k (.loop c) Q F σ := by
 refine awp_loop (fun m F' σ' => (m = M ∧ F' = F ∧ σ' = σ) ∨ (m < M ∧ ∃ L τ, I m L τ ∧ TellS k F' σ' L τ)) M (.inl ⟨rfl, rfl, rfl⟩) ?_
 rintro m F' σ' (⟨rfl, rfl, rfl⟩ | ⟨hm, L, τ, h1, h2⟩)
 · refine zo4 first fun e F σ hq => ?_
   cases e with
   | normal =>
    obtain ⟨m', L', τ', a, b, c⟩ := hq
    exact ⟨m', a, .inr ⟨a, L', τ', b, c⟩⟩
   | _ => exact hq
 · refine zH h2 (zo4 (round m L τ h1) fun e F σ hq => ?_)
   cases e with
   | normal =>
    obtain ⟨m', L', τ', a, b, c⟩ := hq
    exact ⟨m', a, .inr ⟨by omega, L', τ', b, c⟩⟩
   | _ => exact hq
end
section
variable {T : TT} {t e sz : Nat} {α : Type} {enc : α → List AV}
theorem Enc.sl_tight (h : Enc T t e sz enc) (l : List α) (q q' : IntKind) :
 zD1 T t (.ds true (l.flatMap enc) l.length false) none (some (.int q (l.length : Int))) (some (.int q' (l.length : Int))) = some (.ds true (l.flatMap enc) l.length true) := by
 obtain ⟨i, hi, hd⟩ := h.sl
 obtain ⟨j, hj, hs⟩ := h.el
 simp only [zD1, hi, hd, hj, optI, hs]
 rw [if_pos (by simp)]
 have e1 : zk3 (l.flatMap enc) sz (Int.toNat 0) (Int.toNat (l.length : Int)) = l.flatMap enc := by
  unfold zk3
  simp only [Int.toNat_zero, Nat.zero_mul, dZ, Int.toNat_natCast, Nat.sub_zero]
  rw [← zr h.len, List.take_length]
 rw [e1]; simp
theorem app_tight (h : ∀ x, (enc x).length = sz) (l : List α) {m : Nat} (hm : m ≠ 0) (new : List AV) (σ : Store) :
 zD sz (.ds true (l.flatMap enc) l.length true) m new σ = some (.os true sz σ.length 0 0 (l.length + m) false, σ ++ [.cells 0 (l.flatMap enc ++ new)]) := by
 unfold zD
 by_cases h0 : l.length = 0
 · have : l = [] := List.eq_nil_of_length_eq_zero h0
   subst this; simp
 · simp only
   rw [if_neg h0, if_neg hm]
   have e1 : zF σ sz (.ds true (l.flatMap enc) l.length true) = some (l.length, l.flatMap enc) := by
    simp only [zF]
    rw [if_pos (by rw [zr h]; exact nR _), ← zr h, List.take_length]
   rw [e1]
end
section
variable {T : TT} {t e sz : Nat} {α : Type} {enc : α → List AV}
theorem Enc.idxO (h : Enc T t e sz enc) {l : List α} {i : Int} {x : α} (hx : idxL l i = some x) (nl tt : Bool) (q : IntKind) (sz' id ver : Nat) :
 zl1 T t (.os nl sz' id ver 0 l.length tt) (.int q i) = some (.op id ver (i.toNat * sz)) := by
 obtain ⟨h0, h1, _⟩ := zt1 hx
 rw [h.idxo h0 h1, nZ]
theorem Enc.rdO (h : Enc T t e sz enc) {l : List α} {i : Int} {x : α} (hx : idxL l i = some x) : evRd (l.flatMap enc) (i.toNat * sz) sz true = some (.agg (enc x)) := by
 obtain ⟨_, _, hi, rfl⟩ := zt1 hx
 unfold evRd
 have h1 : i.toNat * sz + sz ≤ (l.flatMap enc).length := by
  rw [zr h.len, ← Nat.succ_mul]
  exact Nat.mul_le_mul_right _ hi
 rw [if_pos rfl, if_pos h1, enc_get h.len hi]
theorem Enc.rdfO0 (h : Enc T t e sz enc) {l : List α} {i : Int} {x : α} (hx : idxL l i = some x) (n : Nat) : evRd (l.flatMap enc) (i.toNat * sz) n false = some (gc (enc x) 0) := by
 obtain ⟨_, _, hi, rfl⟩ := zt1 hx
 exact enc_rd0 h.len hi h.pos
theorem za2 : ∀ (xs a b c : List AV), b.length = xs.length → zP (a ++ (b ++ c)) a.length xs = a ++ (xs ++ c) := by
 intro xs
 induction xs with
 | nil => intro a b c h; rw [lI.1 h]; rfl
 | cons x xs ih =>
  intro a b c h
  cases b with
  | nil => simp at h
  | cons y b =>
   have e1 : (a ++ (y :: b ++ c)).set a.length x = (a ++ [x]) ++ (b ++ c) := by
    rw [List.set_append_right _ _ (nR _), Nat.sub_self]; simp
   have e2 : a.length + 1 = (a ++ [x]).length := by simp
   simp only [zP]
   rw [e1, e2, ih _ _ _ (by simpa using h)]
   simp
theorem setRun_enc' (h : ∀ x, (enc x).length = sz) : ∀ {l : List α} (pre : List AV) {i : Nat} (y : α), i < l.length → zP (pre ++ l.flatMap enc) (pre.length + i * sz) (enc y) = pre ++ (l.set i y).flatMap enc := by
 intro l
 induction l with
 | nil => intro pre i y hi; simp at hi
 | cons a l ih =>
  intro pre i y hi
  cases i with
  | zero =>
   simp only [Nat.zero_mul, Nat.add_zero, fC, List.set_cons_zero]
   exact za2 _ _ _ _ (by rw [h, h])
  | succ i =>
   have := ih (pre ++ enc a) (i := i) y (by simpa using hi)
   rw [lP, h a] at this
   rw [List.set_cons_succ, fC, fC, ← aA, ← aA, ← this]
   congr 1
   rw [Nat.succ_mul]; omega
theorem setRun_enc (h : ∀ x, (enc x).length = sz) {l : List α} {i : Nat} (y : α) (hi : i < l.length) : zP (l.flatMap enc) (i * sz) (enc y) = (l.set i y).flatMap enc := by
 simpa using setRun_enc' h [] y hi
theorem zM1 {α : Type} {l : List α} {i : Int} {x : α} : (setI l i x).length = l.length := by simp [setI]
theorem Enc.stOc (h : Enc T t e sz enc) {l : List α} {i : Int} {x0 : α} (hx : idxL l i = some x0) : (i.toNat * sz + sz ≤ (l.flatMap enc).length) = True := by
 obtain ⟨_, _, hi, _⟩ := zt1 hx
 refine eq_true ?_
 rw [zr h.len, ← Nat.succ_mul]
 exact Nat.mul_le_mul_right _ hi
theorem Enc.stOr (h : Enc T t e sz enc) {l : List α} {i : Int} {x0 : α} (hx : idxL l i = some x0) {y : α} {cs : List AV} (hy : enc y = cs) : zP (l.flatMap enc) (i.toNat * sz) cs = (setI l i y).flatMap enc := by
 obtain ⟨_, _, hi, _⟩ := zt1 hx
 subst hy
 exact setRun_enc h.len y hi
end
end AM
end Go.Proofs.YtaddlmlpeghonaaDoor
end
section
namespace Go.Proofs.YtaddlmlpeghonaaDoor
namespace AM
open Go.RowKit
section
variable {T : TT} {t e sz : Nat} {α : Type} {enc : α → List AV}
theorem zeroRun_enc (h : ∀ x, (enc x).length = sz) (hp : 0 < sz) (z : α) (n : Nat) : zG (enc z) (n * sz) = (List.replicate n z).flatMap enc := by
 have hl : (zG (enc z) (n * sz)).length = ((List.replicate n z).flatMap enc).length := by
  rw [zr h]; simp [zG]
 refine List.ext_getElem hl fun i h1 h2 => ?_
 have hi : i < n * sz := by simpa [zG] using h1
 have hk : i / sz < n := by
  rw [Nat.mul_comm] at hi
  exact Nat.div_lt_of_lt_mul hi
 have e1 : gc (zG (enc z) (n * sz)) i = gc (enc z) (i % sz) := by rw [gc_zeroRun _ _ _ hi, h]
 have e2 : gc ((List.replicate n z).flatMap enc) (i / sz * sz + i % sz) = gc (enc z) (i % sz) := by
  rw [enc_gc h (l := List.replicate n z) (by simpa using hk) (Nat.mod_lt _ hp)]; simp
 have e3 : i / sz * sz + i % sz = i := by rw [Nat.mul_comm]; exact Nat.div_add_mod i sz
 rw [e3, ← e1] at e2
 have g : ∀ (l : List AV) (hh : i < l.length), gc l i = l[i] := fun l hh => by simp [gc, hh]
 rw [g _ h2, g _ h1] at e2
 exact e2.symm
theorem Enc.mk0 (h : Enc T t e sz enc) {j : TI} (hj : T e = some j) {z : α} (hz : j.zero.cells = enc z) (hok : j.zero.okc = true) {n : Int} (hg : 0 ≤ n ∧ (j.bytes : Int) * n ≤ 281474976710656 ∧ n < 9223372036854775807) (q q' : IntKind) (σ : Store) :
 evMake T t (.int q n) (.int q' n) σ = some (.os true sz σ.length 0 0 (List.replicate n.toNat z).length true, σ ++ [.cells 0 ((List.replicate n.toNat z).flatMap enc)]) := by
 obtain ⟨i, hi, hd⟩ := h.sl
 obtain ⟨j', hj', hs⟩ := h.el
 rw [hj] at hj'; cases hj'
 simp only [evMake, hi, hd, hj]
 rw [if_pos ⟨hg.1, Int.le_refl _, hg.2.1, hg.2.2, hok, by rw [hz, h.len, hs], by rw [hs]; exact h.pos⟩]
 rw [hz, hs, zeroRun_enc h.len h.pos]
 simp
theorem Enc.slO (h : Enc T t e sz enc) {len : Nat} {a b : Int} (hg : 0 ≤ a ∧ a ≤ b ∧ b ≤ (len : Int)) (q q' : IntKind) (id ver : Nat) (tt : Bool) :
 zD1 T t (.os true sz id ver 0 len tt) (some (.int q a)) (some (.int q' b)) none = some (.os true sz id ver (a.toNat * sz) (b.toNat - a.toNat) (tt && decide (b = (len : Int)))) := by
 obtain ⟨i, hi, hd⟩ := h.sl
 obtain ⟨j, hj, hs⟩ := h.el
 simp only [zD1, hi, hd, hj, optI]
 rw [if_pos ⟨hg.1, hg.2.1, hg.2.2, hs.symm⟩, nZ]
def zH3 {α : Type} (l : List α) (a c n : Nat) : List α := l.take a ++ ((l.drop c).take n ++ l.drop (a + n))
theorem copyI_length {l : List α} {a c n : Nat} (h1 : a + n ≤ l.length) (h2 : c + n ≤ l.length) : (zH3 l a c n).length = l.length := by
 simp only [zH3, lP, List.length_take, List.length_drop]; omega
theorem Enc.cpO (h : Enc T t e sz enc) (ho : ∀ x, (enc x).all AV.one = true) {l : List α} {a b c d : Int} (hg : 0 ≤ a ∧ a ≤ b ∧ b ≤ (l.length : Int)) (hg' : 0 ≤ c ∧ c ≤ d ∧ d ≤ (l.length : Int)) (t1 t2 : Bool) (σ : Store) (id ver : Nat) (hs : Store.at σ id ver = some (l.flatMap enc)) (hid : σ[id]? = some (.cells ver (l.flatMap enc))) :
 zO2 T t (.os true sz id ver (a.toNat * sz) (b.toNat - a.toNat) t1) (.os true sz id ver (c.toNat * sz) (d.toNat - c.toNat) t2) σ =
  some (.int .i64 ((min (d.toNat - c.toNat) (b.toNat - a.toNat) : Nat) : Int), σ.set id (.cells ver ((zH3 l a.toNat c.toNat (min (d.toNat - c.toNat) (b.toNat - a.toNat))).flatMap enc))) := by
 obtain ⟨i, hi, hd⟩ := h.sl
 obtain ⟨j, hj, hz⟩ := h.el
 obtain ⟨a, rfl⟩ : ∃ k : Nat, a = k := ⟨a.toNat, by omega⟩
 obtain ⟨b, rfl⟩ : ∃ k : Nat, b = k := ⟨b.toNat, by omega⟩
 obtain ⟨c, rfl⟩ : ∃ k : Nat, c = k := ⟨c.toNat, by omega⟩
 obtain ⟨d, rfl⟩ : ∃ k : Nat, d = k := ⟨d.toNat, by omega⟩
 simp only [Int.toNat_natCast]
 have g1 : a ≤ b := by omega
 have g2 : b ≤ l.length := by omega
 have g3 : c ≤ d := by omega
 have g4 : d ≤ l.length := by omega
 generalize hn : min (d - c) (b - a) = n
 have hb : a + n ≤ l.length := by omega
 have hc : c + n ≤ l.length := by omega
 have e1 : zF σ sz (.os true sz id ver (c * sz) (d - c) t2) = some (d - c, ((l.drop c).take (d - c)).flatMap enc) := by
  have hle : c * sz + (d - c) * sz ≤ (l.flatMap enc).length := by
   rw [zr h.len, ← Nat.add_mul]; exact Nat.mul_le_mul_right _ (by omega)
  simp only [zF, hs]
  rw [if_pos hle, enc_drop h.len, enc_take h.len]
 have e2 : List.take (n * sz) (((l.drop c).take (d - c)).flatMap enc) = ((l.drop c).take n).flatMap enc := by
  rw [enc_take h.len, List.take_take]; congr 2; omega
 have e3 : (((l.drop c).take n).flatMap enc).length = n * sz := by
  rw [zr h.len]; congr 1; simp; omega
 have e4 : zP (l.flatMap enc) (a * sz) (((l.drop c).take n).flatMap enc) = (zH3 l a c n).flatMap enc := by
  have f1 : l.flatMap enc = (l.take a).flatMap enc ++ (((l.drop a).take n).flatMap enc ++ (l.drop (a + n)).flatMap enc) := by
   rw [← fA, ← fA, ← List.drop_drop, List.take_append_drop, List.take_append_drop]
  have f2 : ((l.take a).flatMap enc).length = a * sz := by rw [zr h.len]; congr 1; simp; omega
  rw [f1, ← f2, za2 _ _ _ _ (by rw [e3, zr h.len]; congr 1; simp; omega)]
  simp only [zH3, fA]
 have e5 : (((l.drop c).take n).flatMap enc).all AV.one = true := by
  rw [List.all_eq_true]
  intro x hx
  obtain ⟨y, _, hy⟩ := List.mem_flatMap.1 hx
  exact List.all_eq_true.1 (ho y) x hy
 simp only [zO2, hi, hd, hj, hz, e1, hn, e2, zB1]
 by_cases h0 : n = 0
 · rw [if_pos (.inl h0)]
   subst h0
   have : zH3 l a c 0 = l := by simp [zH3]
   rw [this]
   have hset : σ.set id (.cells ver (l.flatMap enc)) = σ := by
    apply List.ext_getElem?
    intro k
    by_cases hk : k = id
    · subst hk
      have hlt := (List.getElem?_eq_some_iff.1 hid).1
      rw [List.getElem?_set_self hlt, hid]
    · rw [List.getElem?_set_ne (fun e => hk e.symm)]
   rw [hset]
 · rw [if_neg (by have := h.pos; omega), hs]
   simp only
   rw [if_pos ⟨trivial, by rw [e3, zr h.len, ← Nat.add_mul]; exact Nat.mul_le_mul_right _ hb, e5⟩, e4]
end
theorem zg4 {T : TT} {t : TypeId} {cells : List AV} {off : Nat} {σ : Store} : zJ1 T t (.dp cells off) σ = match T t with
 | some i => evRd cells off i.size i.agg
 | none => none := by
 cases h : T t <;> simp [zJ1, h]
theorem VR.loosen {E : Env} {nl : Bool} {sz id ver off len : Nat} {t : Bool} {v : Value} (h : VR E (.os nl sz id ver off len t) v) : VR E (.os nl sz id ver off len false) v := by
 cases h with
 | osn _ _ _ _ _ a hk h => exact .osn _ _ _ _ _ a hk h
 | os _ _ _ _ _ _ _ a cap hk hc ht hB h => exact .os _ _ _ _ _ _ _ a cap hk hc (fun h => by cases h) hB h
theorem zM5 {P : Program} {T : TT} (hT : TOK P T) {f : FuncId} {fn : Func} {c : Code} {n : Nat} {rs : List ResultVar} {args : List AV} {sz N : Nat} {cs : List AV} (hf : P.funcs[f]? = some fn) (hb : fn.body = some c)
 (hn : fn.ntmps = n) (hr : fn.results.toList = rs) (hent : ∀ vs w, (callFunc f vs).run P w = .ok (.enter f vs) w) (hl : args.length ≤ n)
 (h : awp P n 0 c (retQ T rs fun r σ' => (∃ id t, id < σ'.length ∧ tell σ' [id] true 12 r = .os true sz 0 0 0 N t ∧ tellS σ' [id] true 12 = [.cells 0 cs]) ∨ (N = 0 ∧ cs = [] ∧ tell σ' [] false 12 r = .ds true [] 0 true)) (fr args) []) :
 ACalls P f args [] fun r' σ' => r' = .os true sz 0 0 0 N false ∧ σ' = [.cells 0 cs] := by
 have h1 : ACalls P f args [] fun r' σ' => (∃ t, r' = .os true sz 0 0 0 N t ∧ σ' = [.cells 0 cs]) ∨ (N = 0 ∧ cs = [] ∧ r' = .ds true [] 0 true ∧ σ' = []) := by
  refine ACalls.told ((zQ1 (σ := []) hT hf hb hn hr hent hl h).mono ?_)
  rintro r σ' (⟨id, t, a1, a2, a3⟩ | ⟨a1, a2, a3⟩)
  · exact ⟨[id], true, 12, by simp, by simpa using a1, rfl, .inl ⟨t, a2, a3⟩⟩
  · exact ⟨[], false, 12, List.nodup_nil, (fun _ h => by cases h), rfl, .inr ⟨a1, a2, a3, rfl⟩⟩
 refine h1.ghost ?_
 rintro r σ' (⟨t, rfl, rfl⟩ | ⟨rfl, rfl, rfl, rfl⟩) E v hS hv
 · exact ⟨E, _, _, rfl, hS, Ext.refl E, hv.loosen, rfl, rfl⟩
 · obtain ⟨hS', hx⟩ := hS.virt
   exact ⟨E.new E.w none, _, _, rfl, hS', hx, VR.virt hS hv sz false, rfl, rfl⟩
end AM
end Go.Proofs.YtaddlmlpeghonaaDoor
end
