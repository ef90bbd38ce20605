/- The planner's laws, in plain Lean. -/
import Derived.Test.YtplddidoobjcnaaPh
set_option maxRecDepth 4000
set_option linter.unusedSimpArgs false
set_option linter.unusedVariables false
set_option linter.constructorNameAsVariable false
namespace Go.Proofs.Ytplddidoobjcnaa
open AM

theorem tryF_some {p : List Nd → Option (List Int)} {ns : List Nd} {l : List Int} : ∀ {c : Nat} {i : Int}, tryF p ns c i = some l → ∃ x r, l = x :: r ∧ canB ns x = true ∧ p (afterL ns x) = some r := by
  intro c
  induction c with
  | zero => intro i h; cases h
  | succ c ih =>
    intro i h
    simp only [tryF] at h
    split at h
    · rename_i hc
      split at h
      · rename_i r hr
        cases h
        exact ⟨i, r, rfl, hc, hr⟩
      · exact ih h
    · exact ih h

theorem path_right {es : List Ed} {ns : List Nd} {l : List Int} (hok : ns.all okN = true) (h : path es ns = some l) : rightS ns es = true := by
  rw [path_eq hok] at h
  split at h
  · assumption
  · cases h

theorem path_cons {es : List Ed} {ns : List Nd} {x : Int} {r : List Int} (hok : ns.all okN = true) (h : path es ns = some (x :: r)) : canB ns x = true ∧ path es (afterL ns x) = some r := by
  rw [path_eq hok] at h
  split at h
  · split at h
    · cases h
    · obtain ⟨y, s, e, h1, h2⟩ := tryF_some h
      cases e
      exact ⟨h1, h2⟩
  · cases h

theorem doneTo_iff {ns : List Nd} (hok : ns.all okN = true) : doneTo ns ns.length = true ↔ ∀ x ∈ ns, x.v = x.t := by
  unfold doneTo
  rw [List.all_eq_true]
  constructor
  · intro h x hx
    obtain ⟨i, hi, rfl⟩ := List.getElem_of_mem hx
    have h1 := h i (by simpa using hi)
    obtain ⟨h2, h3, h4⟩ := okN_spec (getOk hok hi)
    have h5 : canB ns (i : Int) = false := by simpa using h1
    have : ¬ ns[i].v < ns[i].t := fun hlt => by rw [canB_nat.2 ⟨hi, hlt⟩] at h5; cases h5
    omega
  · intro h i hi
    have hi' : i < ns.length := by simpa using hi
    cases hc : canB ns (i : Int) with
    | false => rfl
    | true =>
      obtain ⟨_, h1⟩ := canB_nat.1 hc
      have := h _ (List.getElem_mem hi')
      omega

theorem path_nil {es : List Ed} {ns : List Nd} (hok : ns.all okN = true) (h : path es ns = some []) : ∀ x ∈ ns, x.v = x.t := by
  rw [path_eq hok] at h
  split at h
  · split at h
    · rename_i h1; exact (doneTo_iff hok).1 h1
    · obtain ⟨y, s, e, _⟩ := tryF_some h
      cases e
  · cases h

theorem rightS_mem {ns : List Nd} : ∀ {es : List Ed}, rightS ns es = true → ∀ e ∈ es, okE ns e = true ∧ fitS (ns.getD e.f.toNat default) (ns.getD e.t.toNat default) = true := by
  intro es
  induction es with
  | nil => intro _ e he; cases he
  | cons x l ih =>
    intro h e he
    simp only [rightS, Bool.and_eq_true] at h
    rcases List.mem_cons.1 he with rfl | he
    · exact ⟨h.1, h.2.1⟩
    · exact ih h.2.2 e he

theorem rightS_of {ns : List Nd} : ∀ {es : List Ed}, (∀ e ∈ es, okE ns e = true ∧ fitS (ns.getD e.f.toNat default) (ns.getD e.t.toNat default) = true) → rightS ns es = true := by
  intro es
  induction es with
  | nil => intro _; rfl
  | cons x l ih =>
    intro h
    simp only [rightS, Bool.and_eq_true]
    exact ⟨(h x (List.mem_cons_self ..)).1, (h x (List.mem_cons_self ..)).2, ih fun e he => h e (List.mem_cons_of_mem _ he)⟩

theorem anyC_iff {a b : Nd} : ∀ {k : Nat} {v : Int}, anyC a b k v = true ↔ ∃ u, v ≤ u ∧ u < v + k ∧ okC a b u = true := by
  intro k
  induction k with
  | zero => intro v; simp only [anyC]; constructor
            · intro h; cases h
            · rintro ⟨u, h1, h2, _⟩; omega
  | succ k ih =>
    intro v
    simp only [anyC, Bool.or_eq_true, ih]
    constructor
    · rintro (h | ⟨u, h1, h2, h3⟩)
      · exact ⟨v, by omega, by omega, h⟩
      · exact ⟨u, by omega, by omega, h3⟩
    · rintro ⟨u, h1, h2, h3⟩
      by_cases e : u = v
      · subst e; exact .inl h3
      · exact .inr ⟨u, by omega, by omega, h3⟩

/-- Two nodes fit, just if there is a version that both have. -/
theorem fitS_iff {a b : Nd} (ha : 1 ≤ a.v ∧ a.v ≤ 12 ∧ 0 ≤ a.b ∧ a.b ≤ 12) (hb : 1 ≤ b.v ∧ b.v ≤ 12 ∧ 0 ≤ b.b ∧ b.b ≤ 12) : fitS a b = anyC a b 12 1 := by
  have la : leastS a = (max2 1 (a.v - a.b), true) := by
    unfold leastS max2
    split
    · rw [if_neg (by omega), decide_eq_true (by omega)]
    · rw [i64_in (by omega) (by omega), decide_eq_true (by omega)]
      congr 1
      split <;> omega
  have lb : leastS b = (max2 1 (b.v - b.b), true) := by
    unfold leastS max2
    split
    · rw [if_neg (by omega), decide_eq_true (by omega)]
    · rw [i64_in (by omega) (by omega), decide_eq_true (by omega)]
      congr 1
      split <;> omega
  rw [Bool.eq_iff_iff, anyC_iff]
  unfold fitS
  rw [la, lb]
  simp only [Bool.true_and, decide_eq_true_eq, Int.not_lt]
  constructor
  · intro h
    refine ⟨max2 (max2 1 (a.v - a.b)) (max2 1 (b.v - b.b)), ?_, ?_, ?_⟩
    · unfold max2; (repeat' split) <;> omega
    · revert h; unfold max2 min2; (repeat' split) <;> omega
    · unfold okC
      simp only [Bool.and_eq_true, decide_eq_true_eq]
      revert h; unfold max2 min2
      (repeat' split) <;> omega
  · rintro ⟨u, h1, h2, h3⟩
    unfold okC at h3
    simp only [Bool.and_eq_true, decide_eq_true_eq] at h3
    unfold max2 min2
    (repeat' split) <;> omega

theorem plan_bad {ns : List Nd} {es : List Ed} (h : (planS ns es).2 ≠ 0) : (planS ns es).1 = [] := by
  unfold planS at h ⊢
  split at h
  · rename_i hc
    rw [if_pos hc]
    split at h
    · exact absurd rfl h
    · rfl
  · rename_i hc; rw [if_neg hc]

theorem plan_ok {ns : List Nd} {es : List Ed} (h : (planS ns es).2 = 0) : checkS ns es = 0 ∧ path es ns = some (planS ns es).1 := by
  unfold planS at h ⊢
  split at h
  · rename_i hc
    rw [if_pos hc]
    split at h
    · rename_i l hl; rw [hl]; exact ⟨hc, rfl⟩
    · cases h
  · rename_i hc; exact absurd h hc

theorem okE_iff {ns : List Nd} {e : Ed} : okE ns e = true ↔ (0 ≤ e.f ∧ e.f < ns.length) ∧ (0 ≤ e.t ∧ e.t < ns.length) := by
  unfold okE
  simp only [Bool.and_eq_true, decide_eq_true_eq]
  omega

theorem meas_zero : ∀ {ns : List Nd}, (∀ x ∈ ns, x.v = x.t) → meas ns = 0 := by
  intro ns
  induction ns with
  | nil => intro _; rfl
  | cons x l ih =>
    intro h
    have h1 := h x (List.mem_cons_self ..)
    simp only [meas]
    rw [ih fun y hy => h y (List.mem_cons_of_mem _ hy)]
    omega

theorem path_length {es : List Ed} : ∀ {l : List Int} {ns : List Nd}, ns.all okN = true → path es ns = some l → l.length = meas ns := by
  intro l
  induction l with
  | nil => intro ns hok h; rw [meas_zero (path_nil hok h)]; rfl
  | cons x r ih =>
    intro ns hok h
    obtain ⟨hc, h1⟩ := path_cons hok h
    have := ih (afterL_ok hok hc) h1
    have := meas_after hok hc
    simp only [List.length_cons]; omega

theorem getD_nat {ns : List Nd} {k : Int} (h0 : 0 ≤ k) (h1 : k < ns.length) : ns.getD k.toNat default = ns[k.toNat]'(by omega) := by
  rw [List.getD_eq_getElem?_getD, List.getElem?_eq_getElem (by omega)]; rfl

theorem afterL_int {ns : List Nd} {x : Int} (h0 : 0 ≤ x) (h1 : x < ns.length) (hc : canB ns x = true) : afterL ns x = ns.set x.toNat (upN (ns[x.toNat]'(by omega))) := by
  unfold afterL
  rw [if_pos hc, getD_nat h0 h1]

end Go.Proofs.Ytplddidoobjcnaa
