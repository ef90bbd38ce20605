import Derived.Test.YtaddlmlpeghonaaDoorUBo
import Derived.Deep.Slices
import Derived.Deep.Fields
import Derived.ChangeArms
import Derived.ChangeSame
set_option linter.unusedSimpArgs false
set_option linter.unusedVariables false
set_option linter.constructorNameAsVariable false
namespace Go.Proofs.YtaddlmlpeghonaaDoor
namespace AM
open Go.RowKit Go.ChangeShapes Go.WideShapes Go.Deep
def Env.start (w : World) : Env := { w := w, st := fun b => b < w.heap.size, loc := fun _ => none, n := 0 }
theorem SR.start (w : World) (hg : Glb w fun b => b < w.heap.size) : SR (Env.start w) [] where
 len := rfl
 obj := fun id => by simp [ObjR, Env.start]
 inj := fun _ _ _ _ _ h => by simp [Env.start] at h
 blk := fun _ _ _ h => by simp [Env.start] at h
 stb := fun b hb => hb
 glb := hg
theorem cell_lt {w : World} {a : Addr} {v : Value} (h : w.cell? a = some v) : a.block < w.heap.size := by
 unfold World.cell? at h
 rcases Nat.lt_or_ge a.block w.heap.size with h1 | h1
 · exact h1
 · rw [Array.getElem?_eq_none h1] at h; simp at h
theorem add_spot {a : Addr} (h : a.spot = none) (n : Nat) : a.add n = ⟨a.block, a.off + n, none⟩ := by
 obtain ⟨b, o, s⟩ := a
 simp only at h; subst h
 unfold Addr.add
 split
 · rename_i e; subst e; rfl
 · rfl
section
variable {H : Type} {enc : TypeId × Value → H} {P : Program} {w : World} {base : Nat} {spare : Nat → Bool} {held : Bool}
def Opens (enc : TypeId × Value → H) (P : Program) (w : World) (base : Nat) (spare : Nat → Bool) (held : Bool) (t : TypeId) (A : List AV → Prop) : Prop :=
 ∀ n cs y, DataW.trod enc P w base spare held n t cs = some y → ∃ avs, avs.length = cs.length ∧ A avs ∧ ∀ i, i < avs.length → VR (Env.start w) (gc avs i) (cs.getD i undef)
theorem Opens.mono {t : TypeId} {A B : List AV → Prop} (h : Opens enc P w base spare held t A) (k : ∀ l, A l → B l) : Opens enc P w base spare held t B := fun n cs y hy => by
 obtain ⟨avs, h1, h2, h3⟩ := h n cs y hy
 exact ⟨avs, h1, k _ h2, h3⟩
theorem opens_int {t : TypeId} {k : IntKind} (ht : P.underlying t = some (.int k)) : Opens enc P w base spare held t fun l => ∃ n, l = [.int k n] ∧ (Lit.int k n).wf = true := by
 intro n cs y hy
 obtain ⟨m, rfl, _, hw⟩ := DataW.trod_int ht hy
 exact ⟨[.int k m], rfl, ⟨m, rfl, hw⟩, fun i hi => by simp at hi; subst hi; exact .int _ _⟩
theorem gc_flat {sz : Nat} : ∀ {es : List (List AV)} (_ : ∀ x ∈ es, x.length = sz) (i j : Nat) (_ : j < sz) (hi : i < es.length), gc es.flatten (i * sz + j) = gc (es[i]'hi) j := by
 intro es
 induction es with
 | nil => intro _ i j _ hi; simp at hi
 | cons x es ih =>
  intro h i j hj hi
  have hx := h x (by simp)
  cases i with
  | zero =>
   simp only [List.flatten_cons, Nat.zero_mul, Nat.zero_add, List.getElem_cons_zero]
   simp [gc, List.getElem?_append_left (show j < x.length by omega)]
  | succ i =>
   have := ih (fun y hy => h y (by simp [hy])) i j hj (by simpa using hi)
   have e : (i + 1) * sz + j = x.length + (i * sz + j) := by rw [Nat.succ_mul, hx]; omega
   simp only [List.flatten_cons, List.getElem_cons_succ]
   rw [← this, e]
   simp only [gc, List.getD_eq_getElem?_getD, List.getElem?_append_right (Nat.le_add_right _ _), Nat.add_sub_cancel_left]
theorem length_flat {sz : Nat} : ∀ {es : List (List AV)} (_ : ∀ x ∈ es, x.length = sz), es.flatten.length = es.length * sz := by
 intro es
 induction es with
 | nil => intro _; simp
 | cons x es ih => intro h; simp only [List.flatten_cons, List.length_append, ih fun y hy => h y (by simp [hy]), h x (by simp), List.length_cons]; rw [Nat.succ_mul]; omega
theorem Opens.arg {t : TypeId} {A : List AV → Prop} (h : Opens enc P w base spare held t A) {v : Value} {d : DataW H} {p : List MemPlace} (hv : DataW.Trod enc P w base spare held t v d p) (h1 : v.cells.toList = [v]) : ∃ a, A [a] ∧ VR (Env.start w) a v := by
 obtain ⟨n, hn⟩ := hv
 obtain ⟨avs, e1, e2, e3⟩ := h _ _ _ hn
 rw [h1] at e1 e3
 match avs, e1 with
 | [a], _ => exact ⟨a, e2, by simpa [gc] using e3 0 (by simp)⟩
end
theorem walk_of {P : Program} {f : FuncId} {avs : List AV} {x : AV} {v : Value} (h : ACalls P f avs [] fun r σ' => r = x) {w : World} {vs : Array Value} (hg : Glb w fun b => b < w.heap.size) (hvs : ListR (Env.start w) avs vs.toList) (hx : ∀ E u, VR E x u → u = v) :
 Calls P f vs w fun e w' => e = .returned v ∧ Below w.heap.size w w' := by
 refine (h.2 (Env.start w) vs (SR.start w hg) hvs).mono ?_
 rintro e w' ⟨u, r, σ', E', rfl, rfl, h3, _, h5, rfl⟩
 refine ⟨by rw [hx _ _ h3], h5.os, h5.tape, h5.output, h5.size, fun k hk => (h5.st k hk).2⟩
theorem listR_one {E : Env} {a : AV} {v : Value} (h : VR E a v) : ListR E [a] [v] := ⟨rfl, fun i hi => by simp at hi; subst hi; exact h⟩
theorem VR.true_of {E : Env} {u : Value} (h : VR E (.bool true) u) : u = .bool true := by cases h; rfl
end AM
end Go.Proofs.YtaddlmlpeghonaaDoor
