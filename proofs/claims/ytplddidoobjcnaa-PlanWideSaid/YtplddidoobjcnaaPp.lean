/- PlanWide: what its function answers. -/
import Derived.Test.YtplddidoobjcnaaPo
set_option maxRecDepth 4000
set_option maxHeartbeats 2000000
set_option linter.unusedSimpArgs false
set_option linter.unusedVariables false
set_option linter.constructorNameAsVariable false
namespace Go.Proofs.Ytplddidoobjcnaa
open AM

/-- Node by node. -/
def wantF : List Nd → Nat → List Int
  | [], _ => []
  | x :: l, i => List.replicate (x.t - x.v).toNat (i : Int) ++ wantF l (i + 1)

theorem wantF_snoc (l : List Nd) (x : Nd) : ∀ i, wantF (l ++ [x]) i = wantF l i ++ List.replicate (x.t - x.v).toNat ((i + l.length : Nat) : Int) := by
  induction l with
  | nil => intro i; simp [wantF]
  | cons y l ih =>
    intro i
    simp only [List.cons_append, wantF, ih, List.append_assoc, List.length_cons]
    congr 4
    omega

theorem wantF_done : ∀ {l : List Nd}, (∀ y ∈ l, y.v = y.t) → ∀ i, wantF l i = [] := by
  intro l
  induction l with
  | nil => intro _ i; rfl
  | cons x l ih =>
    intro h i
    have h1 := h x (List.mem_cons_self ..)
    rw [wantF, ih fun y hy => h y (List.mem_cons_of_mem _ hy)]
    rw [show (x.t - x.v).toNat = 0 by omega]; rfl

theorem wantF_step : ∀ {pre post : List Nd} {x : Nd}, (∀ y ∈ pre, y.v = y.t) → okN x = true → x.v < x.t → ∀ i, wantF (pre ++ x :: post) i = ((i + pre.length : Nat) : Int) :: wantF (pre ++ upN x :: post) i := by
  intro pre
  induction pre with
  | nil =>
    intro post x _ ho hv i
    simp only [List.nil_append, wantF, (upN_ok ho hv).2, List.length_nil, Nat.add_zero]
    have : (upN x).t = x.t := rfl
    rw [this, show (x.t - x.v).toNat = (x.t - (x.v + 1)).toNat + 1 by omega, List.replicate_succ]; rfl
  | cons y l ih =>
    intro post x h ho hv i
    have h1 := h y (List.mem_cons_self ..)
    simp only [List.cons_append, wantF, show (y.t - y.v).toNat = 0 by omega, List.replicate_zero, List.nil_append, List.length_cons]
    rw [ih (fun z hz => h z (List.mem_cons_of_mem _ hz)) ho hv]
    congr 2
    omega

theorem tryF_first {p : List Nd → Option (List Int)} {ns : List Nd} {k : Nat} {l : List Int} (h1 : ∀ j : Nat, j < k → canB ns (j : Int) = false) (h2 : canB ns (k : Int) = true) (h3 : p (afterL ns (k : Int)) = some l) :
    ∀ (c i : Nat), i ≤ k → k < i + c → tryF p ns c (i : Int) = some ((k : Int) :: l) := by
  intro c
  induction c with
  | zero => intro i a b; omega
  | succ c ih =>
    intro i a b
    rw [tryF]
    by_cases e : i = k
    · subst e
      rw [h2, h3]; rfl
    · rw [h1 i (by omega)]
      simp only [Bool.false_eq_true, if_false]
      have := ih (i + 1) (by omega) (by omega)
      rw [← this]; congr 1

theorem notDone : ∀ {l : List Nd}, l.all okN = true → ¬ (∀ y ∈ l, y.v = y.t) → ∃ pre x post, l = pre ++ x :: post ∧ (∀ y ∈ pre, y.v = y.t) ∧ x.v < x.t := by
  intro l
  induction l with
  | nil => intro _ h; exact absurd (fun y hy => by cases hy) h
  | cons x l ih =>
    intro ho h
    simp only [List.all_cons, Bool.and_eq_true] at ho
    obtain ⟨h1, h2, h3⟩ := okN_spec ho.1
    by_cases e : x.v = x.t
    · obtain ⟨pre, y, post, e1, e2, e3⟩ := ih ho.2 fun hl => h fun y hy => by
        rcases List.mem_cons.1 hy with rfl | hy
        · exact e
        · exact hl y hy
      refine ⟨x :: pre, y, post, by rw [e1]; rfl, fun z hz => ?_, e3⟩
      rcases List.mem_cons.1 hz with rfl | hz
      · exact e
      · exact e2 z hz
    · exact ⟨[], x, l, rfl, (fun z hz => by cases hz), by omega⟩

def wideB (x : Nd) : Bool := okN x && decide (x.b = 12)

theorem wide_fit {a b : Nd} (ha : wideB a = true) (hb : wideB b = true) : fitS a b = true := by
  simp only [wideB, Bool.and_eq_true, decide_eq_true_eq] at ha hb
  obtain ⟨h1, h2, h3⟩ := okN_spec ha.1
  obtain ⟨k1, k2, k3⟩ := okN_spec hb.1
  have la : leastS a = (1, true) := by unfold leastS; rw [if_pos (by omega), decide_eq_true (by omega)]
  have lb : leastS b = (1, true) := by unfold leastS; rw [if_pos (by omega), decide_eq_true (by omega)]
  unfold fitS
  rw [la, lb]
  simp only [Bool.true_and, decide_eq_true_eq, max2, min2]
  (repeat' split) <;> omega

theorem wide_ok {l : List Nd} (h : l.all wideB = true) : l.all okN = true := by
  rw [List.all_eq_true] at h ⊢
  intro x hx
  have := h x hx
  simp only [wideB, Bool.and_eq_true] at this
  exact this.1

theorem wide_right {ns : List Nd} {es : List Ed} (h : ns.all wideB = true) (he : es.all (okE ns) = true) : rightS ns es = true := by
  refine rightS_of fun e hm => ?_
  have ho := List.all_eq_true.1 he e hm
  refine ⟨ho, ?_⟩
  obtain ⟨⟨a0, a1⟩, b0, b1⟩ := okE_iff.1 ho
  rw [getD_nat a0 a1, getD_nat b0 b1]
  exact wide_fit (List.all_eq_true.1 h _ (List.getElem_mem _)) (List.all_eq_true.1 h _ (List.getElem_mem _))

theorem wide_path {es : List Ed} : ∀ (m : Nat) {ns : List Nd}, meas ns ≤ m → ns.all wideB = true → es.all (okE ns) = true → path es ns = some (wantF ns 0) := by
  intro m
  induction m with
  | zero =>
    intro ns hm hw he
    have hok := wide_ok hw
    have hd : ∀ y ∈ ns, y.v = y.t := by
      rcases Classical.em (∀ y ∈ ns, y.v = y.t) with h | h
      · exact h
      · obtain ⟨pre, x, post, e1, e2, e3⟩ := notDone hok h
        have hi : pre.length < ns.length := by rw [e1]; simp
        have hx : ns[pre.length] = x := by simp [e1]
        have hc : canB ns (pre.length : Int) = true := canB_nat.2 ⟨hi, by rw [hx]; exact e3⟩
        have := meas_after hok hc
        omega
    rw [path_eq hok, wide_right hw he, (doneTo_iff hok).2 hd, wantF_done hd]; rfl
  | succ m ih =>
    intro ns hm hw he
    have hok := wide_ok hw
    rcases Classical.em (∀ y ∈ ns, y.v = y.t) with h | h
    · rw [path_eq hok, wide_right hw he, (doneTo_iff hok).2 h, wantF_done h]; rfl
    · have hnd : doneTo ns ns.length = false := by
        cases hh : doneTo ns ns.length with
        | false => rfl
        | true => exact absurd ((doneTo_iff hok).1 hh) h
      obtain ⟨pre, x, post, e1, e2, e3⟩ := notDone hok h
      have hi : pre.length < ns.length := by rw [e1]; simp
      have hx : ns[pre.length] = x := by simp [e1]
      have hc : canB ns (pre.length : Int) = true := canB_nat.2 ⟨hi, by rw [hx]; exact e3⟩
      have hox : okN x = true := by rw [← hx]; exact getOk hok hi
      have ha : afterL ns (pre.length : Int) = pre ++ upN x :: post := by
        rw [afterL_nat hi hc, hx, e1]; simp
      have hw' : (afterL ns (pre.length : Int)).all wideB = true := by
        rw [ha]
        rw [e1] at hw
        simp only [List.all_append, List.all_cons, Bool.and_eq_true] at hw ⊢
        refine ⟨hw.1, ?_, hw.2.2⟩
        have := hw.2.1
        simp only [wideB, Bool.and_eq_true, decide_eq_true_eq] at this ⊢
        exact ⟨(upN_ok hox e3).1, this.2⟩
      have hl : (afterL ns (pre.length : Int)).length = ns.length := afterL_length hc
      have hp := ih (ns := afterL ns (pre.length : Int)) (by have := meas_after hok hc; omega) hw' (by rw [okE_len hl]; exact he)
      have hj : ∀ j : Nat, j < pre.length → canB ns (j : Int) = false := by
        intro j hj
        cases hh : canB ns (j : Int) with
        | false => rfl
        | true =>
          obtain ⟨h1, h2⟩ := canB_nat.1 hh
          have hg : ns[j] = pre[j] := by simp [e1, List.getElem_append_left hj]
          rw [hg] at h2
          have := e2 _ (List.getElem_mem hj)
          omega
      rw [path_eq hok, wide_right hw he, hnd]
      simp only [if_true, Bool.false_eq_true, if_false]
      have := tryF_first hj hc hp ns.length 0 (by omega) (by omega)
      rw [show ((0 : Nat) : Int) = 0 from rfl] at this
      rw [this, ha]
      congr 1
      have := wantF_step (post := post) e2 hox e3 0
      rw [← e1] at this
      rw [this]; simp

theorem wide_prod : ∀ {ns : List Nd}, ns.all wideB = true → (∀ x ∈ ns, x.t ≤ x.v + 3) → 1 ≤ prodS ns ∧ prodS ns ≤ 4 ^ ns.length := by
  intro l
  induction l with
  | nil => intro _ _; simp [prodS]
  | cons x l ih =>
    intro h h3
    simp only [List.all_cons, Bool.and_eq_true] at h
    have hx := h.1
    simp only [wideB, Bool.and_eq_true] at hx
    obtain ⟨⟨h1, h2⟩, ⟨h3', h4⟩, _⟩ := okN_spec hx.1
    obtain ⟨i1, i2⟩ := ih h.2 fun y hy => h3 y (List.mem_cons_of_mem _ hy)
    have a : (1 : Int) ≤ x.t - x.v + 1 := by omega
    have b : x.t - x.v + 1 ≤ 4 := by have := h3 x (List.mem_cons_self ..); omega
    simp only [prodS, List.length_cons, Int.pow_succ]
    refine ⟨?_, ?_⟩
    · have := Int.mul_le_mul a i1 (by decide) (by omega); omega
    · have := Int.mul_le_mul b i2 (by omega) (by decide)
      rw [Int.mul_comm (4 ^ l.length) 4]; exact this

/-- Nodes with room enough behind. -/
structure Wide (n : List Nd) : Prop where
  len : n.length ≤ 6
  wide : n.all wideB = true
  near : ∀ x ∈ n, x.t ≤ x.v + 3

theorem Wide.prod {n : List Nd} (h : Wide n) : 1 ≤ prodS n ∧ prodS n ≤ 4096 := by
  obtain ⟨h1, h2⟩ := wide_prod h.wide h.near
  refine ⟨h1, Int.le_trans h2 ?_⟩
  have hl := h.len
  have : ∀ k : Nat, k ≤ 6 → (4 : Int) ^ k ≤ 4096 := by
    intro k hk
    match k, hk with
    | 0, _ | 1, _ | 2, _ | 3, _ | 4, _ | 5, _ | 6, _ => decide
  exact this _ hl

theorem Wide.snoc {n : List Nd} (h : Wide n) (hl : n.length < 6) {v t : Int} (hv : 1 ≤ v ∧ v ≤ 4) (ht : v ≤ t ∧ t ≤ v + 3) : Wide (n ++ [⟨v, t, 12⟩]) where
  len := by rw [List.length_append, List.length_singleton]; omega
  wide := by
    rw [List.all_append, h.wide]
    simp [wideB, okN]
    omega
  near := fun x hx => by
    rcases List.mem_append.1 hx with hx | hx
    · exact h.near x hx
    · rw [List.mem_singleton.1 hx]; exact ht.2

theorem Wide.plan {n : List Nd} {es : List Ed} (h : Wide n) (he : es.all (okE n) = true) (hl : es.length ≤ 64) : planS n es = (wantF n 0, 0) :=
  plan_is (check_of h.len hl (wide_ok h.wide) he (h.prod.2)) (wide_path _ (Nat.le_refl _) h.wide he)

theorem wantF_len : ∀ {l : List Nd}, (∀ x ∈ l, x.t ≤ x.v + 3) → ∀ i, (wantF l i).length ≤ 3 * l.length := by
  intro l
  induction l with
  | nil => intro _ i; simp [wantF]
  | cons x l ih =>
    intro h i
    have h1 := h x (List.mem_cons_self ..)
    have := ih (fun y hy => h y (List.mem_cons_of_mem _ hy)) (i + 1)
    simp only [wantF, List.length_append, List.length_replicate, List.length_cons]
    omega

end Go.Proofs.Ytplddidoobjcnaa
