/- Arguments that came in: rows of numbers, of bytes, of rows of bytes. -/
import Derived.Test.YtplddidoobjcnaaDi
import Derived.Test.YtplddidoobjcnaaAp
set_option linter.unusedSimpArgs false
set_option linter.unusedVariables false
set_option linter.constructorNameAsVariable false
namespace Go.Proofs.Ytplddidoobjcnaa
open AM

theorem flat_ints {es : List (List AV)} (h : ∀ x ∈ es, ∃ n, x = [AV.int .i64 n] ∧ (Lit.int .i64 n).wf = true) : ∃ zs, es.flatten = ints zs ∧ zs.length = es.length ∧ ∀ n ∈ zs, (Lit.int .i64 n).wf = true := by
  induction es with
  | nil => exact ⟨[], rfl, rfl, by simp⟩
  | cons x es ih =>
    obtain ⟨zs, h1, h2, h3⟩ := ih fun y hy => h y (by simp [hy])
    obtain ⟨n, rfl, hw⟩ := h x (by simp)
    exact ⟨n :: zs, by simp [ints, h1] , by simp [h2], by simpa using ⟨hw, h3⟩⟩

theorem flat_bytes {es : List (List AV)} (h : ∀ x ∈ es, ∃ n, x = [AV.int .u8 n] ∧ (Lit.int .u8 n).wf = true) : ∃ l, es.flatten = bys l ∧ l.length = es.length := by
  induction es with
  | nil => exact ⟨[], rfl, rfl⟩
  | cons x es ih =>
    obtain ⟨zs, h1, h2⟩ := ih fun y hy => h y (by simp [hy])
    obtain ⟨n, rfl, hw⟩ := h x (by simp)
    have hn : 0 ≤ n ∧ n ≤ 255 := by
      simp only [Lit.wf, IntKind.min, IntKind.max, IntKind.signed, IntKind.bits, Bool.and_eq_true, decide_eq_true_eq, Bool.false_eq_true, if_false] at hw
      omega
    refine ⟨UInt8.ofNat n.toNat :: zs, ?_, by simp [h2]⟩
    have : ((UInt8.ofNat n.toNat).toNat : Int) = n := by
      simp only [UInt8.toNat_ofNat']; omega
    simp only [List.flatten_cons, h1, bys, List.map_cons, this, List.singleton_append]

theorem flat_rows {es : List (List AV)} (h : ∀ x ∈ es, ∃ nl l, x = [AV.ds nl (bys l) l.length false] ∧ l.length ≤ maxLen) : ∃ zs, es.flatten = bcells zs ∧ zs.length = es.length ∧ ∀ p ∈ zs, p.2.length ≤ maxLen := by
  induction es with
  | nil => exact ⟨[], rfl, rfl, by simp⟩
  | cons x es ih =>
    obtain ⟨zs, h1, h2, h3⟩ := ih fun y hy => h y (by simp [hy])
    obtain ⟨n, l, rfl, hw⟩ := h x (by simp)
    exact ⟨(n, l) :: zs, by simp [bcells, h1], by simp [h2], fun p hp => by
      rcases List.mem_cons.1 hp with rfl | hp
      · exact hw
      · exact h3 p hp⟩

section
variable {H : Type} {enc : TypeId × Value → H} {w : World} {base : Nat} {spare : Nat → Bool} {held : Bool}

theorem opens27 : Opens enc Try.prog w base spare held 27 fun x => ∃ nl l, x = [AV.ds nl (bys l) l.length false] ∧ l.length ≤ maxLen ∧ (nl = true → l = []) := by
  refine (opens_slice Try.underlying27 (by decide +kernel) (opens_int Try.underlying5)).mono ?_
  rintro x ⟨nl, es, rfl, h1, h2, h3⟩
  obtain ⟨l, e1, e2⟩ := flat_bytes fun y hy => (h1 y hy).1
  refine ⟨nl, l, by rw [e1, e2], by rw [e2]; exact h2, fun e => ?_⟩
  have := h3 e
  subst this
  exact List.length_eq_zero_iff.1 e2

theorem opens34 : Opens enc Try.prog w base spare held 34 fun x => ∃ nl zs, x = [AV.ds nl (ints zs) zs.length false] ∧ zs.length ≤ maxLen ∧ (nl = true → zs = []) ∧ ∀ n ∈ zs, (Lit.int .i64 n).wf = true := by
  refine (opens_slice Try.underlying34 (by decide +kernel) (opens_int Try.underlying3)).mono ?_
  rintro x ⟨nl, es, rfl, h1, h2, h3⟩
  obtain ⟨l, e1, e2, e3⟩ := flat_ints fun y hy => (h1 y hy).1
  refine ⟨nl, l, by rw [e1, e2], by rw [e2]; exact h2, fun e => ?_, e3⟩
  have := h3 e
  subst this
  exact List.length_eq_zero_iff.1 e2

theorem opens22 : Opens enc Try.prog w base spare held 22 fun x => ∃ nl zs, x = [AV.ds nl (bcells zs) zs.length false] ∧ zs.length ≤ maxLen ∧ (nl = true → zs = []) ∧ ∀ p ∈ zs, p.2.length ≤ maxLen := by
  refine (opens_slice Try.underlying22 (by decide +kernel) opens27).mono ?_
  rintro x ⟨nl, es, rfl, h1, h2, h3⟩
  obtain ⟨l, e1, e2, e3⟩ := flat_rows (fun y hy => by obtain ⟨⟨a, b, c, d, _⟩, _⟩ := h1 y hy; exact ⟨a, b, c, d⟩)
  refine ⟨nl, l, by rw [e1, e2], by rw [e2]; exact h2, fun e => ?_, e3⟩
  have := h3 e
  subst this
  exact List.length_eq_zero_iff.1 e2

end
end Go.Proofs.Ytplddidoobjcnaa
