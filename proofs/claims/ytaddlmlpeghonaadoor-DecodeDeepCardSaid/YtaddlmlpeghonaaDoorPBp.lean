import Derived.Test.YtaddlmlpeghonaaDoorPBo
import Derived.Deep.Slices
import Derived.Deep.Fields
import Derived.ChangeArms
import Derived.ChangeSame
set_option linter.unusedSimpArgs false
set_option linter.unusedVariables false
set_option linter.constructorNameAsVariable false
namespace Go.Proofs.YtaddlmlpeghonaaDoor
namespace AM
open Go.RowKit Go.ChangeShapes Go.WideShapes Go.Deep
def Env.start (w : World) : Env := { w := w, st := fun b => b < w.heap.size, loc := fun _ => none, n := 0 }
theorem SR.start (w : World) (hg : Glb w fun b => b < w.heap.size) : SR (Env.start w) [] where
  len := rfl
  obj := fun id => by simp [ObjR, Env.start]
  inj := fun _ _ _ _ _ h => by simp [Env.start] at h
  blk := fun _ _ _ h => by simp [Env.start] at h
  stb := fun b hb => hb
  glb := hg
section
variable {H : Type} {enc : TypeId × Value → H} {P : Program} {w : World} {base : Nat} {spare : Nat → Bool} {held : Bool}
def Opens (enc : TypeId × Value → H) (P : Program) (w : World) (base : Nat) (spare : Nat → Bool) (held : Bool) (t : TypeId) (A : List AV → Prop) : Prop :=
  ∀ n cs y, DataW.trod enc P w base spare held n t cs = some y → ∃ avs, avs.length = cs.length ∧ A avs ∧ ∀ i, i < avs.length → VR (Env.start w) (gc avs i) (cs.getD i undef)
theorem Opens.mono {t : TypeId} {A B : List AV → Prop} (h : Opens enc P w base spare held t A) (k : ∀ l, A l → B l) : Opens enc P w base spare held t B := fun n cs y hy => by
  obtain ⟨avs, h1, h2, h3⟩ := h n cs y hy
  exact ⟨avs, h1, k _ h2, h3⟩
end
theorem walk_of {P : Program} {f : FuncId} {avs : List AV} {x : AV} {v : Value} (h : ACalls P f avs [] fun r σ' => r = x) {w : World} {vs : Array Value} (hg : Glb w fun b => b < w.heap.size) (hvs : ListR (Env.start w) avs vs.toList) (hx : ∀ E u, VR E x u → u = v) :
    Calls P f vs w fun e w' => e = .returned v ∧ Below w.heap.size w w' := by
  refine (h.2 (Env.start w) vs (SR.start w hg) hvs).mono ?_
  rintro e w' ⟨u, r, σ', E', rfl, rfl, h3, _, h5, rfl⟩
  refine ⟨by rw [hx _ _ h3], h5.os, h5.tape, h5.output, h5.size, fun k hk => (h5.st k hk).2⟩
theorem listR_one {E : Env} {a : AV} {v : Value} (h : VR E a v) : ListR E [a] [v] := ⟨rfl, fun i hi => by simp at hi; subst hi; exact h⟩
theorem VR.true_of {E : Env} {u : Value} (h : VR E (.bool true) u) : u = .bool true := by cases h; rfl
end AM
end Go.Proofs.YtaddlmlpeghonaaDoor
