import Derived.Test.YtaddlmlpeghonaaDoorUBv
set_option linter.unusedSimpArgs false
set_option linter.unusedVariables false
set_option linter.constructorNameAsVariable false
namespace Go.Proofs.YtaddlmlpeghonaaDoor
namespace AM
open Go.RowKit
def fs : List (Nat × AV) → Fr
 | [], _ => .u
 | (t, a) :: l, s => if s = t then a else fs l s
def keepS (F : Fr) (m : List Nat) : List (Nat × AV) := m.map fun t => (t, F t)
theorem fs_nil {s : Nat} : fs [] s = .u := rfl
theorem zk {t s : Nat} {a : AV} {l : List (Nat × AV)} : fs ((t, a) :: l) s = if s = t then a else fs l s := rfl
theorem keepS_nil {F : Fr} : keepS F [] = [] := rfl
theorem keepS_cons {F : Fr} {t : Nat} {m : List Nat} : keepS F (t :: m) = (t, F t) :: keepS F m := rfl
attribute [go_sem] fs_nil zk keepS_nil keepS_cons
def Fits (F : Fr) : List (Nat × AV) → Prop
 | [] => True
 | (t, a) :: l => F t = a ∧ Fits F l
theorem FR.fits {E : Env} {n : Nat} {F : Fr} {a : Act} (h : FR E n F a) : ∀ {L : List (Nat × AV)}, Fits F L → FR E n (fs L) a := by
 intro L hL
 refine ⟨h.size, h.defers, fun t => ?_⟩
 induction L with
 | nil => exact .u _
 | cons p L ih =>
  obtain ⟨s, x⟩ := p
  obtain ⟨h1, h2⟩ := hL
  rw [zk]
  split
  · rename_i e; subst e; rw [← h1]; exact h.tmps t
  · exact ih h2
theorem fits_keepS (F : Fr) (m : List Nat) : Fits F (keepS F m) := by
 induction m with
 | nil => trivial
 | cons t m ih => exact ⟨rfl, ih⟩
def TLS (σ : Store) (keep : List Nat) (ls : Bool) (F : Fr) : List (Nat × AV) → Prop
 | [] => True
 | (t, a) :: l => tell σ keep ls 12 (F t) = a ∧ TLS σ keep ls F l
inductive TellS (k : Nat) (F : Fr) (σ : Store) (L : List (Nat × AV)) (τ : Store) : Prop
 | same (h : Fits F L) (e : σ = τ)
 | told (keep : List Nat) (ls : Bool) (h1 : keep.Nodup) (h2 : ∀ id ∈ keep, id < σ.length) (h3 : keep.take k = List.range k) (h4 : tellS σ keep ls 12 = τ) (h5 : TLS σ keep ls F L)
theorem FR.tls {E : Env} {n : Nat} {F : Fr} {a : Act} {σ : Store} (hS : SR E σ) (hF : FR E n F a) {keep : List Nat} {ls : Bool} {L : List (Nat × AV)} (hL : TLS σ keep ls F L) : FR (E.ren keep) n (fs L) a := by
 refine ⟨hF.size, hF.defers, fun t => ?_⟩
 induction L with
 | nil => exact .u _
 | cons p L ih =>
  obtain ⟨s, x⟩ := p
  obtain ⟨h1, h2⟩ := hL
  rw [zk]
  split
  · rename_i e; subst e; rw [← h1]; exact VR.tell hS 12 _ (hF.tmps t)
  · exact ih h2
theorem TellS.env {k : Nat} {F : Fr} {σ : Store} {L : List (Nat × AV)} {τ : Store} (h : TellS k F σ L τ) {E : Env} {n : Nat} {a : Act} (hk : k ≤ E.n) (hS : SR E σ) (hF : FR E n F a) :
 ∃ E', E'.w = E.w ∧ SR E' τ ∧ FR E' n (fs L) a ∧ ExtK k E E' := by
 cases h with
 | same h e => subst e; exact ⟨E, rfl, hS, hF.fits h, ExtK.refl E hk⟩
 | told keep ls h1 h2 h3 h4 h5 =>
  subst h4
  exact ⟨E.ren keep, rfl, hS.tell h1 h2 ls 12, hF.tls hS h5, ExtK.ren hS.stb h3⟩
theorem upon_mono {P : Program} {ops : Array Oper} {Q1 Q2 : Exit → Act → World → Prop} (hq : ∀ e a w, e ≠ .normal → Q1 e a w → Q2 e a w) (o : Oper) (K K' : Act → World → Prop) (a : Act) (w : World) (hK : ∀ a w, K a w → K' a w) (h : o.wp P a w K Q1) : o.wp P a w K' Q2 := by
 unfold Oper.wp at *
 generalize (execOp a.eval o).run P w = r at *
 cases r with
 | ok x w' =>
  cases x <;> simp only [Oper.upon] at h ⊢
  case value v => exact hK _ _ h
  case skip => exact hK _ _ h
  case defer d => exact hK _ _ h
  case enter f args =>
   refine h.mono fun e w'' he => ?_
   cases e with
   | returned v => exact hK _ _ he
   | panicked c => exact hq _ _ _ (by simp) he
   | outgrown => obtain ⟨a, w, hp⟩ := he; exact ⟨a, w, hq _ _ _ (by simp) hp⟩
  case row row args => exact h.mono fun v w'' he => hK _ _ he
 | halt x w' =>
  cases x <;> simp only [Oper.upon] at h ⊢
  case panic v => exact hq _ _ _ (by simp) h
theorem wpList_app {P : Program} {ops : Array Oper} {Q1 Q2 : Exit → Act → World → Prop} (l2 : List Oper) (hn : ∀ a w, Q1 .normal a w → wpList P ops Q2 l2 a w) (hq : ∀ e a w, e ≠ .normal → Q1 e a w → Q2 e a w) :
 ∀ (l1 : List Oper) (a : Act) (w : World), wpList P ops Q1 l1 a w → wpList P ops Q2 (l1 ++ l2) a w := by
 intro l1
 induction l1 with
 | nil => intro a w h; exact hn a w h
 | cons o l ih =>
  intro a w h
  rw [List.cons_append]
  unfold wpList at h ⊢
  split
  · rename_i hw
    rw [if_pos hw] at h
    rcases h with h | ⟨h1, a', w', h2⟩
    · exact .inl (upon_mono (ops := ops) hq o _ _ a w (fun a w => ih a w) h)
    · exact .inr ⟨h1, a', w', hq _ _ _ (by simp) h2⟩
  · rename_i hw
    rw [if_neg hw] at h
    exact ih _ _ h
theorem wpList_mono' {P : Program} {ops : Array Oper} {Q1 Q2 : Exit → Act → World → Prop} (hq : ∀ e a w, Q1 e a w → Q2 e a w) (l : List Oper) (a : Act) (w : World) (h : wpList P ops Q1 l a w) : wpList P ops Q2 l a w := by
 have := wpList_app (Q2 := Q2) [] (fun a w h => hq _ _ _ h) (fun e a w _ h => hq _ _ _ h) l a w h
 rwa [List.append_nil] at this
section
variable {P : Program} {n k : Nat} {Q : Exit → Fr → Store → Prop} {F : Fr} {σ : Store}
theorem awp_tellS {c : Code} {L : List (Nat × AV)} {τ : Store} (ht : TellS k F σ L τ) (h : awp P n k c Q (fs L) τ) : awp P n k c Q F σ := by
 intro E a hk hS hF
 obtain ⟨E', h1, h2, h3, h4⟩ := ht.env hk hS hF
 rw [← h1]
 exact wp_mono (h E' a h4.n h2 h3) fun e a w hp => post_trans h4 hp
theorem zm {args : List AV} {c : Code} (L : List (Nat × AV)) (hL : Fits (fr args) L) (h : awp P n k c Q (fs L) σ) : awp P n k c Q (fr args) σ := awp_tellS (.same hL rfl) h
theorem awp_keepS (m : List Nat) {c : Code} (h : awp P n k c Q (fs (keepS F m)) σ) : awp P n k c Q F σ := awp_tellS (.same (fits_keepS F m) rfl) h
theorem rg {T : TT} (hT : TOK P T) (m : List Nat) {id : Nat} {l : List Oper} {y : Code}
 (h : ∀ K : List (Nat × AV) → Store → Prop, (∀ L σ, awp P n k y Q (fs L) σ → K L σ) → Run (evOps T n l.toArray l F σ) fun l' F' σ' => l' = [] ∧ K (keepS F' m) σ') : awp P n k (.seq (.region id l.toArray false) y) Q F σ := by
 refine ze fun K hK => awp_region ?_
 have h1 := h (fun L σ' => awp P n k y Q (fs L) σ') fun _ _ h => h
 unfold Run at h1
 split at h1
 · rename_i l' F' σ' he
   obtain ⟨rfl, h2⟩ := h1
   exact opsWp_run hT he (zb (hK _ _ (awp_keepS m h2)))
 · exact h1.elim
theorem rc (m : List Nat) {id : Nat} {l : List Oper} {y : Code}
 (h : ∀ K : List (Nat × AV) → Store → Prop, (∀ L σ, awp P n k y Q (fs L) σ → K L σ) → opsWp P n k l.toArray l (thenQ (fun F σ => K (keepS F m) σ) Q) F σ) : awp P n k (.seq (.region id l.toArray false) y) Q F σ := by
 refine ze fun K hK => awp_region ?_
 have h1 := h (fun L σ' => awp P n k y Q (fs L) σ') fun _ _ h => h
 intro E a hk hS hF
 have := h1 E a hk hS hF
 refine wpList_mono' (fun e a w hp => ?_) _ _ _ this
 obtain ⟨E', F', σ', e1, e2, e3, e4, e5⟩ := hp
 refine ⟨E', F', σ', e1, e2, e3, e4, ?_⟩
 cases e with
 | normal => exact hK _ _ (awp_keepS m e5)
 | _ => exact e5
theorem rd (m : List Nat) {c y : Code} (h : ∀ K : List (Nat × AV) → Store → Prop, (∀ L σ, awp P n k y Q (fs L) σ → K L σ) → awp P n k c (thenQ (fun F σ => K (keepS F m) σ) Q) F σ) : awp P n k (.seq c y) Q F σ := by
 refine ze fun K hK => ?_
 refine awp_mono (h (fun L σ' => awp P n k y Q (fs L) σ') fun _ _ h => h) fun e F σ hq => ?_
 cases e with
 | normal => exact hK _ _ (awp_keepS m hq)
 | _ => exact hq
theorem awp_join {x y : Code} (I : List (Nat × AV) → Store → Prop) (hx : awp P n k x (thenQ (fun F σ => ∃ L τ, I L τ ∧ TellS k F σ L τ) Q) F σ) (hy : ∀ L τ, I L τ → awp P n k y Q (fs L) τ) : awp P n k (.seq x y) Q F σ := by
 refine ze fun K hK => awp_mono hx fun e F σ hq => ?_
 cases e with
 | normal =>
  obtain ⟨L, τ, h1, h2⟩ := hq
  exact hK _ _ (awp_tellS h2 (hy L τ h1))
 | _ => exact hq
theorem zn {ops : Array Oper} {l : List Oper} (m : Nat) (I : List (Nat × AV) → Store → Prop) (hx : opsWp P n k ops (l.take m) (fun e F σ => e = .normal ∧ ∃ L τ, I L τ ∧ TellS k F σ L τ) F σ)
 (hy : ∀ L τ, I L τ → opsWp P n k ops (l.drop m) Q (fs L) τ) : opsWp P n k ops l Q F σ := by
 intro E a hk hS hF
 have h1 := hx E a hk hS hF
 have := wpList_app (Q2 := post n k Q E) (l.drop m) (fun a w h => by
  obtain ⟨E', F', σ', e1, e2, e3, e4, _, L, τ, e5, e6⟩ := h
  obtain ⟨E2, g1, g2, g3, g4⟩ := e6.env e4.n e2 e3
  have := hy L τ e5 E2 a g4.n g2 g3
  rw [g1, e1] at this
  exact wpList_post (e4.trans g4) _ _ _ this) (fun e a w hne h => by
  obtain ⟨_, _, _, _, _, _, _, h, _⟩ := h
  exact absurd h hne) (l.take m) a E.w h1
 rwa [List.take_append_drop] at this
theorem zt {c : Code} (I : Nat → List (Nat × AV) → Store → Prop) (m : Nat) {L : List (Nat × AV)} {τ : Store} (h0 : I m L τ) (ht : TellS k F σ L τ)
 (round : ∀ m L τ, I m L τ → awp P n k c (thenQ (fun F' σ' => ∃ m' L' τ', m' < m ∧ I m' L' τ' ∧ TellS k F' σ' L' τ') Q) (fs L) τ) : awp P n k (.loop c) Q F σ := by
 refine awp_loop (fun m F σ => ∃ L τ, I m L τ ∧ TellS k F σ L τ) m ⟨L, τ, h0, ht⟩ ?_
 rintro m F σ ⟨L, τ, h1, h2⟩
 refine awp_tellS h2 (awp_mono (round m L τ h1) fun e F σ hq => ?_)
 cases e with
 | normal =>
  obtain ⟨m', L', τ', a, b, c⟩ := hq
  exact ⟨m', a, L', τ', b, c⟩
 | _ => exact hq
end
def AV.bnd : AV → Prop
 | .ds _ _ len _ => len ≤ 9223372036854775807
 | .os _ _ _ _ _ len _ => len ≤ 9223372036854775807
 | _ => True
theorem VR.bnd {E : Env} {a : AV} {v : Value} (h : VR E a v) : a.bnd := by
 cases h with
 | dsn => show 0 ≤ _; omega
 | ds _ _ _ _ _ _ _ _ _ _ _ _ hB => exact hB
 | osn => show 0 ≤ _; omega
 | os _ _ _ _ _ _ _ _ _ _ _ _ hB => exact hB
 | _ => trivial
section
variable {P : Program} {n k : Nat} {Q : Exit → Fr → Store → Prop} {F : Fr} {σ : Store}
end
def idxL {α : Type} (l : List α) (i : Int) : Option α := if 0 ≤ i then l[i.toNat]? else none
def grd (p : Prop) [Decidable p] : Option Unit := if p then some () else none
def bnd {α β : Type} (a : α) (f : α → β) : β := f a
def room (n b : Nat) : Option Unit := if n * b ≤ 140737488355328 then some () else none
def setI {α : Type} (l : List α) (i : Int) (x : α) : List α := l.set i.toNat x
theorem srcCells_o {σ : Store} {size : Nat} {nl : Bool} {sz id ver off len : Nat} {t : Bool} : srcCells σ size (.os nl sz id ver off len t) = match Store.at σ id ver with
 | some cs => if off + len * size ≤ cs.length then some (len, (cs.drop off).take (len * size)) else none
 | none => none := rfl
theorem srcCells_s {σ : Store} {size : Nat} {s : List UInt8} : srcCells σ size (.str s) = if size = 1 then some (s.length, bys s) else none := rfl
theorem bind_some {α β : Type} {o : Option α} {f : α → Option β} {r : β} (h : o.bind f = some r) : ∃ x, o = some x ∧ f x = some r := by
 cases o with
 | none => cases h
 | some x => exact ⟨x, rfl, h⟩
theorem bnd_elim {α β : Type} {a : α} {f : α → β} {r : β} (h : bnd a f = r) : ∃ x, a = x ∧ f x = r := ⟨a, rfl, h⟩
theorem grd_some {p : Prop} [Decidable p] {u : Unit} (h : grd p = some u) : p := by
 unfold grd at h
 split at h
 · assumption
 · cases h
theorem room_some {n b : Nat} {u : Unit} (h : room n b = some u) : (n * b ≤ 140737488355328) = True := by
 unfold room at h
 split at h
 · rename_i hb; exact eq_true hb
 · cases h
theorem idxL_some {α : Type} {l : List α} {i : Int} {x : α} (h : idxL l i = some x) : 0 ≤ i ∧ i < l.length ∧ ∃ hi : i.toNat < l.length, l[i.toNat] = x := by
 unfold idxL at h
 split at h
 · obtain ⟨hi, e⟩ := List.getElem?_eq_some_iff.1 h
   exact ⟨by assumption, by omega, hi, e⟩
 · cases h
theorem if_F {α : Type} {b : Bool} {x y : α} (h : b = false) : (if b = true then x else y) = y := by rw [h]; rfl
theorem zip_cons {α : Type} {l pre post : List α} {y : α} {i : Int} (hE : l = pre ++ y :: post) (hi : i = (pre.length : Int)) (hb : l.length ≤ 9223372036854775807) :
 (i < (l.length : Int)) = True ∧ IntKind.i64.wrap (i + 1) = i + 1 ∧ idxL l i = some y ∧ l = (pre ++ [y]) ++ post ∧ i + 1 = ((pre ++ [y]).length : Int) := by
 have hl : l.length = pre.length + (post.length + 1) := by rw [hE]; simp
 refine ⟨eq_true (by omega), i64_in (by omega) (by omega), ?_, by rw [hE]; simp, by rw [hi]; simp⟩
 unfold idxL
 rw [if_pos (by omega), hi, Int.toNat_natCast, hE]
 simp
theorem zip_nil {α : Type} {l pre : List α} {i : Int} (hE : l = pre ++ []) (hi : i = (pre.length : Int)) : (i < (l.length : Int)) = False := by
 have hl : l.length = pre.length := by rw [hE]; simp
 exact eq_false (by omega)
section
variable {T : TT} {t e sz : Nat} {α : Type} {enc : α → List AV}
theorem Enc.idxS (h : Enc T t e sz enc) {l : List α} {i : Int} {x : α} (hx : idxL l i = some x) (nl tt : Bool) (q : IntKind) : evIndexAddr T t (.ds nl (l.flatMap enc) l.length tt) (.int q i) = some (.dp (l.flatMap enc) (i.toNat * sz)) := by
 obtain ⟨h0, h1, _⟩ := idxL_some hx
 exact h.idx h0 h1 nl tt q
theorem Enc.loadS (h : Enc T t e sz enc) {j : TI} (hj : T e = some j) (hag : j.agg = true) {l : List α} {i : Int} {x : α} (hx : idxL l i = some x) (σ : Store) : evLoad T e (.dp (l.flatMap enc) (i.toNat * sz)) σ = some (.agg (enc x)) := by
 obtain ⟨_, _, h2, h3⟩ := idxL_some hx
 rw [h.load hj hag h2, h3]
theorem Enc.fldS (h : Enc T t e sz enc) {f : Nat} {j : TI} (hj : T f = some j) (hag : j.agg = false) {l : List α} {i : Int} {x : α} (hx : idxL l i = some x) {o : Nat} (ho : o < sz) (σ : Store) : evLoad T f (.dp (l.flatMap enc) (i.toNat * sz + o)) σ = some (gc (enc x) o) := by
 obtain ⟨_, _, h2, h3⟩ := idxL_some hx
 rw [h.fld hj hag h2 ho, h3]
theorem Enc.fldS0 (h : Enc T t e sz enc) {f : Nat} {j : TI} (hj : T f = some j) (hag : j.agg = false) {l : List α} {i : Int} {x : α} (hx : idxL l i = some x) (σ : Store) : evLoad T f (.dp (l.flatMap enc) (i.toNat * sz)) σ = some (gc (enc x) 0) := by
 obtain ⟨_, _, h2, h3⟩ := idxL_some hx
 rw [h.fld0 hj hag h2, h3]
end
end AM
end Go.Proofs.YtaddlmlpeghonaaDoor
