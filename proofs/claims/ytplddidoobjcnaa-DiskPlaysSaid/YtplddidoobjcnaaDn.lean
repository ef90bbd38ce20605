/- Arguments that came in: a script of calls. -/
import Derived.Test.YtplddidoobjcnaaDj
import Derived.Test.YtplddidoobjcnaaDm
set_option linter.unusedSimpArgs false
set_option linter.unusedVariables false
set_option linter.constructorNameAsVariable false
namespace Go.Proofs.Ytplddidoobjcnaa
open AM

theorem wf64 {n : Int} (h : (Lit.int .i64 n).wf = true) : -9223372036854775808 ≤ n ∧ n < 9223372036854775808 := by
  simp only [Lit.wf, IntKind.min, IntKind.max, IntKind.signed, IntKind.bits, Bool.and_eq_true, decide_eq_true_eq, if_true] at h
  omega

theorem flat_pos {es : List (List AV)} (h : ∀ x ∈ es, ∃ y : PO, x = y.cells ∧ (y.n < 9223372036854775808 ∧ y.b.length ≤ maxLen)) :
    ∃ zs, es.flatten = pocells zs ∧ zs.length = es.length ∧ ∀ y ∈ zs, y.n < 9223372036854775808 ∧ y.b.length ≤ maxLen := by
  induction es with
  | nil => exact ⟨[], rfl, rfl, by simp⟩
  | cons x es ih =>
    obtain ⟨zs, h1, h2, h3⟩ := ih fun y hy => h y (by simp [hy])
    obtain ⟨y, rfl, hw⟩ := h x (by simp)
    exact ⟨y :: zs, by simp [pocells, h1], by simp [h2], by simpa using ⟨hw, h3⟩⟩

section
variable {H : Type} {enc : TypeId × Value → H} {w : World} {base : Nat} {spare : Nat → Bool} {held : Bool}

theorem opens44 : Opens enc Try.prog w base spare held 44 fun x => ∃ y : PO, x = y.cells ∧ (y.n < 9223372036854775808 ∧ y.b.length ≤ maxLen) := by
  refine (opens_struct (A := fun j x => match j with
    | 2 => ∃ nl l, x = [AV.ds nl (bys l) l.length false] ∧ l.length ≤ maxLen ∧ (nl = true → l = [])
    | _ => ∃ n, x = [.int .i64 n] ∧ (Lit.int .i64 n).wf = true) Try.underlying44 (by decide +kernel) (by decide +kernel) ?_).mono ?_
  · intro j f hf
    match j with
    | 0 => cases hf; exact opens_int Try.underlying3
    | 1 => cases hf; exact opens_int Try.underlying3
    | 2 => cases hf; exact opens27
    | j + 3 => simp at hf
  · rintro x ⟨hl, hx⟩
    obtain ⟨a, e0, _⟩ := hx 0 (by decide)
    obtain ⟨b, e1, w1⟩ := hx 1 (by decide)
    obtain ⟨nl, l, e2, w2, _⟩ := hx 2 (by decide)
    refine ⟨⟨a, b, nl, l⟩, ?_, (wf64 w1).2, w2⟩
    match x, hl with
    | [p, q, r], _ =>
      simp only [gc, List.getD_eq_getElem?_getD, List.getElem?_cons_zero, List.getElem?_cons_succ, Option.getD_some, List.cons.injEq, and_true] at e0 e1 e2
      simp [PO.cells, e0, e1, e2]

theorem opens40 : Opens enc Try.prog w base spare held 40 fun x => ∃ nl zs, x = [AV.ds nl (pocells zs) zs.length false] ∧ zs.length ≤ maxLen ∧ (nl = true → zs = []) ∧ ∀ y ∈ zs, y.n < 9223372036854775808 ∧ y.b.length ≤ maxLen := by
  refine (opens_slice Try.underlying40 (by decide +kernel) opens44).mono ?_
  rintro x ⟨nl, es, rfl, h1, h2, h3⟩
  obtain ⟨l, e1, e2, e3⟩ := flat_pos fun y hy => (h1 y hy).1
  refine ⟨nl, l, by rw [e1, e2], by rw [e2]; exact h2, fun e => ?_, e3⟩
  have := h3 e
  subst this
  exact List.length_eq_zero_iff.1 e2

end
end Go.Proofs.Ytplddidoobjcnaa
