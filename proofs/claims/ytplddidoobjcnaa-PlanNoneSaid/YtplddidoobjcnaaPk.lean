/- Arguments that came in: nodes, edges, numbers. -/
import Derived.Test.YtplddidoobjcnaaPi
import Derived.Test.YtplddidoobjcnaaBp
set_option linter.unusedSimpArgs false
set_option linter.unusedVariables false
set_option linter.constructorNameAsVariable false
namespace Go.Proofs.Ytplddidoobjcnaa
open AM

theorem flat_of {α : Type} {e : α → List AV} {p : α → Prop} {es : List (List AV)} (h : ∀ x ∈ es, ∃ y : α, x = e y ∧ p y) : ∃ zs : List α, es.flatten = zs.flatMap e ∧ zs.length = es.length ∧ ∀ z ∈ zs, p z := by
  induction es with
  | nil => exact ⟨[], rfl, rfl, fun z hz => by cases hz⟩
  | cons x es ih =>
    obtain ⟨zs, h1, h2, h3⟩ := ih fun y hy => h y (by simp [hy])
    obtain ⟨y, rfl, hp⟩ := h x (by simp)
    refine ⟨y :: zs, by simp [h1], by simp [h2], fun z hz => ?_⟩
    rcases List.mem_cons.1 hz with rfl | hz
    · exact hp
    · exact h3 z hz

theorem wf64 {n : Int} (h : (Lit.int .i64 n).wf = true) : -9223372036854775808 ≤ n ∧ n < 9223372036854775808 := by
  simp only [Lit.wf, IntKind.min, IntKind.max, IntKind.signed, IntKind.bits, Bool.and_eq_true, decide_eq_true_eq, if_true] at h
  omega

/-- A number that fits. -/
def in64 (n : Int) : Prop := -9223372036854775808 ≤ n ∧ n < 9223372036854775808

section
variable {H : Type} {enc : TypeId × Value → H} {w : World} {base : Nat} {spare : Nat → Bool} {held : Bool}

theorem opens_node : Opens enc Try.prog w base spare held 58 fun x => ∃ y : Nd, x = encN y ∧ (in64 y.v ∧ in64 y.t ∧ in64 y.b) := by
  refine (opens_struct (A := fun _ x => ∃ n, x = [.int .i64 n] ∧ (Lit.int .i64 n).wf = true) Try.underlying58 (by decide +kernel) (by decide +kernel) ?_).mono ?_
  · intro j f hf
    match j with
    | 0 => cases hf; exact opens_int Try.underlying3
    | 1 => cases hf; exact opens_int Try.underlying3
    | 2 => cases hf; exact opens_int Try.underlying3
    | j + 3 => simp at hf
  · rintro x ⟨hl, hx⟩
    obtain ⟨a, e0, w0⟩ := hx 0 (by decide)
    obtain ⟨b, e1, w1⟩ := hx 1 (by decide)
    obtain ⟨c, e2, w2⟩ := hx 2 (by decide)
    refine ⟨⟨a, b, c⟩, ?_, wf64 w0, wf64 w1, wf64 w2⟩
    match x, hl with
    | [p, q, r], _ =>
      simp only [gc, List.getD_eq_getElem?_getD, List.getElem?_cons_zero, List.getElem?_cons_succ, Option.getD_some, List.cons.injEq, and_true] at e0 e1 e2
      simp [encN, e0, e1, e2]

theorem opens_edge : Opens enc Try.prog w base spare held 55 fun x => ∃ y : Ed, x = encE y ∧ (in64 y.f ∧ in64 y.t) := by
  refine (opens_struct (A := fun _ x => ∃ n, x = [.int .i64 n] ∧ (Lit.int .i64 n).wf = true) Try.underlying55 (by decide +kernel) (by decide +kernel) ?_).mono ?_
  · intro j f hf
    match j with
    | 0 => cases hf; exact opens_int Try.underlying3
    | 1 => cases hf; exact opens_int Try.underlying3
    | j + 2 => simp at hf
  · rintro x ⟨hl, hx⟩
    obtain ⟨a, e0, w0⟩ := hx 0 (by decide)
    obtain ⟨b, e1, w1⟩ := hx 1 (by decide)
    refine ⟨⟨a, b⟩, ?_, wf64 w0, wf64 w1⟩
    match x, hl with
    | [p, q], _ =>
      simp only [gc, List.getD_eq_getElem?_getD, List.getElem?_cons_zero, List.getElem?_cons_succ, Option.getD_some, List.cons.injEq, and_true] at e0 e1
      simp [encE, e0, e1]

theorem opens_nodes : Opens enc Try.prog w base spare held 48 fun x => ∃ zs : List Nd, x = [AV.ds true (zs.flatMap encN) zs.length false] ∧ zs.length ≤ maxLen ∧ ∀ z ∈ zs, in64 z.v ∧ in64 z.t ∧ in64 z.b := by
  refine (opens_slice Try.underlying48 (by decide +kernel) opens_node).mono ?_
  rintro x ⟨es, rfl, h1, h2⟩
  obtain ⟨l, e1, e2, e3⟩ := flat_of fun y hy => (h1 y hy).1
  exact ⟨l, by rw [e1, e2], by rw [e2]; exact h2, e3⟩

theorem opens_edges : Opens enc Try.prog w base spare held 49 fun x => ∃ zs : List Ed, x = [AV.ds true (zs.flatMap encE) zs.length false] ∧ zs.length ≤ maxLen ∧ ∀ z ∈ zs, in64 z.f ∧ in64 z.t := by
  refine (opens_slice Try.underlying49 (by decide +kernel) opens_edge).mono ?_
  rintro x ⟨es, rfl, h1, h2⟩
  obtain ⟨l, e1, e2, e3⟩ := flat_of fun y hy => (h1 y hy).1
  exact ⟨l, by rw [e1, e2], by rw [e2]; exact h2, e3⟩

theorem opens_ints : Opens enc Try.prog w base spare held 34 fun x => ∃ zs : List Int, x = [AV.ds true (zs.flatMap encI) zs.length false] ∧ zs.length ≤ maxLen ∧ ∀ z ∈ zs, in64 z := by
  refine (opens_slice Try.underlying34 (by decide +kernel) (opens_int Try.underlying3)).mono ?_
  rintro x ⟨es, rfl, h1, h2⟩
  obtain ⟨l, e1, e2, e3⟩ := flat_of (e := encI) (p := in64) fun y hy => by
    obtain ⟨n, hn, hw⟩ := (h1 y hy).1
    exact ⟨n, hn, wf64 hw⟩
  exact ⟨l, by rw [e1, e2], by rw [e2]; exact h2, e3⟩

end
end Go.Proofs.Ytplddidoobjcnaa
