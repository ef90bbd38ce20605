import Derived.Test.YtaddlmlpeghonaaDoorUOa
set_option linter.unusedSimpArgs false
set_option linter.unusedVariables false
set_option linter.constructorNameAsVariable false
namespace Go.Proofs.YtaddlmlpeghonaaDoor
open AM
section
variable {H : Type} {enc : TypeId × Value → H} {w : World} {base : Nat} {spare : Nat → Bool} {held : Bool}
def okRaw (y : GRaw) : Prop := in64 y.fTag ∧ in64 y.fWire ∧ in64 y.fN ∧ y.fB.length ≤ 140737488351232
theorem opens_raw (N : Nat) : OpensS enc Tryd.prog w base spare held N 33 fun x => ∃ y : GRaw, x = encGRaw y ∧ okRaw y := by
 refine ((opensS_struct (N := N) (A := fun j x => if j < 3 then ∃ n, x = [.int .i64 n] ∧ in64 n else ∃ s, x = [.str s] ∧ s.length ≤ 140737488351232) Tryd.underlying33 (by decide +kernel) ?_).mono ?_).less
 · intro j f hf
   match j with
   | 0 => cases hf; exact opens_in64
   | 1 => cases hf; exact opens_in64
   | 2 => cases hf; exact opens_in64
   | 3 => cases hf; exact opens_str
   | j + 4 => simp at hf
 · rintro x ⟨parts, rfl, hl, hx⟩
   obtain ⟨a, e0, w0⟩ := hx 0 (by decide)
   obtain ⟨b, e1, w1⟩ := hx 1 (by decide)
   obtain ⟨c, e2, w2⟩ := hx 2 (by decide)
   obtain ⟨d, e3, w3⟩ := hx 3 (by decide)
   refine ⟨⟨a, b, c, d⟩, ?_, w0, w1, w2, w3⟩
   match parts, hl with
   | [p, q, r, s], _ =>
    simp only [List.getD_cons_zero, List.getD_cons_succ] at e0 e1 e2 e3
    subst e0 e1 e2 e3; rfl
theorem opens_raws (N : Nat) : OpensS enc Tryd.prog w base spare held N 22 fun x => ∃ zs : List GRaw, x = [AV.ds true (zs.flatMap encGRaw) zs.length false] ∧ zs.length * 40 ≤ 140737488351232 ∧ ∀ y ∈ zs, okRaw y := by
 refine ((opensS_slice (N := N) Tryd.underlying22 (by decide +kernel) (opens_raw N)).mono ?_).less
 rintro x ⟨es, rfl, h1, h2, _⟩
 obtain ⟨l, e1, e2, e3⟩ := flat_of fun y hy => (h1 y hy).1
 rw [show Tryd.prog.bytesOf 33 = 40 by kernel_rfl] at h2
 exact ⟨l, by rw [e1, e2], by rw [e2]; exact h2, e3⟩
end
end Go.Proofs.YtaddlmlpeghonaaDoor
