/- The planner's search, in plain Lean. -/
import Derived.Test.YtplddidoobjcnaaPd
set_option maxRecDepth 4000
set_option linter.unusedSimpArgs false
set_option linter.unusedVariables false
set_option linter.constructorNameAsVariable false
namespace Go.Proofs.Ytplddidoobjcnaa
open AM

/-- How many steps are left. -/
def meas : List Nd → Nat
  | [] => 0
  | x :: l => (x.t - x.v).toNat + meas l

/-- The first way on, by steps from i on. -/
def tryF (p : List Nd → Option (List Int)) (ns : List Nd) : Nat → Int → Option (List Int)
  | 0, _ => none
  | c + 1, i => if canB ns i then (match p (afterL ns i) with
    | some l => some (i :: l)
    | none => tryF p ns c (i + 1)) else tryF p ns c (i + 1)

/-- None of the first ones may go on. -/
def doneTo (ns : List Nd) (i : Nat) : Bool := (List.range i).all fun (j : Nat) => !canB ns j

def pathF (es : List Ed) : Nat → List Nd → Option (List Int)
  | 0, _ => none
  | f + 1, ns => if rightS ns es then (if doneTo ns ns.length then some [] else tryF (pathF es f) ns ns.length 0) else none

/-- The first list of steps that leads to all targets. -/
def path (es : List Ed) (ns : List Nd) : Option (List Int) := pathF es (meas ns + 1) ns

theorem canB_iff {ns : List Nd} {i : Int} : canB ns i = true ↔ 0 ≤ i ∧ i < ns.length ∧ (ns.getD i.toNat default).v < (ns.getD i.toNat default).t := by
  simp only [canB, Bool.and_eq_true, decide_eq_true_eq, Bool.not_eq_true', decide_eq_false_iff_not]
  omega

theorem canB_nat {ns : List Nd} {i : Nat} : canB ns (i : Int) = true ↔ ∃ h : i < ns.length, ns[i].v < ns[i].t := by
  rw [canB_iff, Int.toNat_natCast]
  constructor
  · rintro ⟨_, h1, h2⟩
    have h : i < ns.length := by omega
    rw [List.getD_eq_getElem?_getD, List.getElem?_eq_getElem h] at h2
    exact ⟨h, h2⟩
  · rintro ⟨h, h2⟩
    rw [List.getD_eq_getElem?_getD, List.getElem?_eq_getElem h]
    exact ⟨by omega, by omega, h2⟩

theorem afterL_nat {ns : List Nd} {i : Nat} (h : i < ns.length) (hc : canB ns (i : Int) = true) : afterL ns (i : Int) = ns.set i (upN ns[i]) := by
  unfold afterL
  rw [if_pos hc, Int.toNat_natCast, List.getD_eq_getElem?_getD, List.getElem?_eq_getElem h]; rfl

theorem afterL_length {ns : List Nd} {i : Int} (hc : canB ns i = true) : (afterL ns i).length = ns.length := by
  unfold afterL; rw [if_pos hc, List.length_set]

theorem upN_ok {x : Nd} (h : okN x = true) (hv : x.v < x.t) : okN (upN x) = true ∧ (upN x).v = x.v + 1 := by
  obtain ⟨h1, h2, h3⟩ := okN_spec h
  have e : (upN x).v = x.v + 1 := i64_in (by omega) (by omega)
  refine ⟨?_, e⟩
  have e2 : (upN x).t = x.t := rfl
  have e3 : (upN x).b = x.b := rfl
  unfold okN
  rw [e, e2, e3]
  simp only [Bool.and_eq_true, decide_eq_true_eq]
  omega

theorem all_set {ns : List Nd} {i : Nat} {y : Nd} (h : ns.all okN = true) (hy : okN y = true) : (ns.set i y).all okN = true := by
  rw [List.all_eq_true] at h ⊢
  intro x hx
  rcases List.mem_or_eq_of_mem_set hx with hx | rfl
  · exact h x hx
  · exact hy

theorem getOk {ns : List Nd} (h : ns.all okN = true) {i : Nat} (hi : i < ns.length) : okN ns[i] = true := List.all_eq_true.1 h _ (List.getElem_mem hi)

theorem afterL_ok {ns : List Nd} {i : Int} (h : ns.all okN = true) (hc : canB ns i = true) : (afterL ns i).all okN = true := by
  obtain ⟨h0, h1, h2⟩ := canB_iff.1 hc
  obtain ⟨k, rfl⟩ : ∃ k : Nat, i = k := ⟨i.toNat, by omega⟩
  have hk : k < ns.length := by omega
  obtain ⟨_, hv⟩ := canB_nat.1 hc
  rw [afterL_nat hk hc]
  exact all_set h (upN_ok (getOk h hk) hv).1

theorem meas_set : ∀ {ns : List Nd} {i : Nat} (hi : i < ns.length), okN ns[i] = true → ns[i].v < ns[i].t → meas (ns.set i (upN ns[i])) + 1 = meas ns := by
  intro ns
  induction ns with
  | nil => intro i hi; simp at hi
  | cons x l ih =>
    intro i hi ho hv
    cases i with
    | zero =>
      simp only [List.getElem_cons_zero] at ho hv
      simp only [List.set_cons_zero, List.getElem_cons_zero, meas, (upN_ok ho hv).2]
      have : (upN x).t = x.t := rfl
      rw [this]; omega
    | succ i =>
      simp only [List.getElem_cons_succ] at ho hv
      simp only [List.set_cons_succ, List.getElem_cons_succ, meas]
      have := ih (by simpa using hi) ho hv
      omega

theorem meas_after {ns : List Nd} {i : Int} (h : ns.all okN = true) (hc : canB ns i = true) : meas (afterL ns i) + 1 = meas ns := by
  obtain ⟨h0, h1, h2⟩ := canB_iff.1 hc
  obtain ⟨k, rfl⟩ : ∃ k : Nat, i = k := ⟨i.toNat, by omega⟩
  have hk : k < ns.length := by omega
  obtain ⟨_, hv⟩ := canB_nat.1 hc
  rw [afterL_nat hk hc]
  exact meas_set hk (getOk h hk) hv

theorem tryF_congr {p q : List Nd → Option (List Int)} {ns : List Nd} (h : ∀ i, canB ns i = true → p (afterL ns i) = q (afterL ns i)) : ∀ c i, tryF p ns c i = tryF q ns c i := by
  intro c
  induction c with
  | zero => intro i; rfl
  | succ c ih =>
    intro i
    simp only [tryF]
    cases hc : canB ns i with
    | false => simp only [Bool.false_eq_true, if_false]; exact ih _
    | true => simp only [if_true, h i hc, ih]

theorem path_eq {es : List Ed} {ns : List Nd} (h : ns.all okN = true) : path es ns = if rightS ns es then (if doneTo ns ns.length then some [] else tryF (path es) ns ns.length 0) else none := by
  unfold path
  rw [pathF]
  congr 1
  congr 1
  exact tryF_congr (fun i hi => by rw [meas_after h hi]) _ _

/-! ### the states that lead nowhere -/

def verS (ns : List Nd) : List Int := ns.map (·.v) ++ List.replicate (6 - ns.length) 0

theorem stateA_eq (ns : List Nd) : stateA ns = (verS ns).map (AV.int .i64) := by
  unfold stateA verS
  rw [List.map_append, List.map_replicate]
  congr 1
  induction ns with
  | nil => rfl
  | cons x l ih => rw [List.flatMap_cons, ih]; rfl

theorem verS_len {ns : List Nd} (h : ns.length ≤ 6) : (verS ns).length = 6 := by
  unfold verS; rw [List.length_append, List.length_map, List.length_replicate]; omega

def encM (M : List (List Int × Bool)) : List (AV × AV) := M.map fun e => (.agg (e.1.map (AV.int .i64)), .bool e.2)

def getM : List (List Int × Bool) → List Int → Bool
  | [], _ => false
  | e :: l, k => if k = e.1 then e.2 else getM l k

def setM : List (List Int × Bool) → List Int → Bool → List (List Int × Bool)
  | [], k, b => [(k, b)]
  | e :: l, k, b => if k = e.1 then (k, b) :: l else e :: setM l k b

theorem getM_set (M : List (List Int × Bool)) (k k' : List Int) (b : Bool) : getM (setM M k b) k' = if k' = k then b else getM M k' := by
  induction M with
  | nil => simp only [setM, getM]
  | cons e l ih =>
    simp only [setM]
    by_cases h : k = e.1
    · rw [if_pos h]
      simp only [getM]
      by_cases h' : k' = k
      · rw [if_pos h', if_pos h']
      · rw [if_neg h', if_neg h', if_neg (fun e' => h' (e'.trans h.symm))]
    · rw [if_neg h]
      simp only [getM, ih]
      by_cases h' : k' = e.1
      · rw [if_pos h', if_pos h', if_neg (fun e' => h (e'.symm.trans h'))]
      · rw [if_neg h', if_neg h']

def six (M : List (List Int × Bool)) : Prop := ∀ e ∈ M, e.1.length = 6

theorem six_set {M : List (List Int × Bool)} (h : six M) {k : List Int} (hk : k.length = 6) (b : Bool) : six (setM M k b) := by
  induction M with
  | nil => intro e he; cases List.mem_singleton.1 he; exact hk
  | cons e l ih =>
    have h1 := ih fun x hx => h x (List.mem_cons_of_mem _ hx)
    simp only [setM]
    split
    · intro x hx
      rcases List.mem_cons.1 hx with rfl | hx
      · exact hk
      · exact h x (List.mem_cons_of_mem _ hx)
    · intro x hx
      rcases List.mem_cons.1 hx with rfl | hx
      · exact h _ (List.mem_cons_self ..)
      · exact h1 x hx

theorem ceqL_ints : ∀ (n : Nat) (a b : List Int), a.length = n → b.length = n → ceqL (List.replicate n (.int .i64)) (a.map (AV.int .i64)) (b.map (AV.int .i64)) = some (decide (a = b)) := by
  intro n
  induction n with
  | zero =>
    intro a b ha hb
    rw [List.length_eq_zero_iff.1 ha, List.length_eq_zero_iff.1 hb]; rfl
  | succ n ih =>
    intro a b ha hb
    cases a with
    | nil => simp at ha
    | cons x a =>
    cases b with
    | nil => simp at hb
    | cons y b =>
      simp only [List.replicate_succ, List.map_cons, ceqL, ceq, if_true, ih a b (by simpa using ha) (by simpa using hb)]
      congr 1
      by_cases h : x = y <;> by_cases h' : a = b <;> simp [h, h']

theorem find_enc {k : List Int} (hk : k.length = 6) {ik : TI} (hi : ik.agg = true) : ∀ {M : List (List Int × Bool)} (hM : six M) (n : Nat),
    (evFind (List.replicate 6 (.int .i64)) ik (k.map (AV.int .i64)) (encM M) n = some none ∧ getM M k = false ∧ ∀ b, setM M k b = M ++ [(k, b)]) ∨
    (∃ i v, evFind (List.replicate 6 (.int .i64)) ik (k.map (AV.int .i64)) (encM M) n = some (some (n + i, .bool v)) ∧ getM M k = v ∧ ∀ b, setM M k b = M.set i (k, b)) := by
  intro M
  induction M with
  | nil => intro _ n; exact .inl ⟨rfl, rfl, fun b => rfl⟩
  | cons e l ih =>
    intro hM n
    have he : e.1.length = 6 := hM e (List.mem_cons_self ..)
    have h1 := ih (fun x hx => hM x (List.mem_cons_of_mem _ hx)) (n + 1)
    have h2 : evFind (List.replicate 6 (.int .i64)) ik (k.map (AV.int .i64)) (encM (e :: l)) n = bif decide (k = e.1) then some (some (n, .bool e.2)) else evFind (List.replicate 6 (.int .i64)) ik (k.map (AV.int .i64)) (encM l) (n + 1) := by
      simp only [encM, List.map_cons, evFind, kCells, hi, if_true, ceqL_ints 6 k e.1 hk he]
    rw [h2]
    by_cases h : k = e.1
    · refine .inr ⟨0, e.2, by simp [h], by simp [getM, h], fun b => by simp [setM, h]⟩
    · simp only [h, decide_false, cond_false, getM, setM, if_false]
      rcases h1 with ⟨a1, a2, a3⟩ | ⟨i, v, a1, a2, a3⟩
      · exact .inl ⟨a1, a2, fun b => by rw [a3]; rfl⟩
      · refine .inr ⟨i + 1, v, ?_, a2, fun b => by rw [a3]; rfl⟩
        rw [a1]; congr 3; omega

theorem e6 : List.replicate 6 (TypeDesc.int .i64) = [.int .i64, .int .i64, .int .i64, .int .i64, .int .i64, .int .i64] := rfl

theorem lookup_enc {k : List Int} (hk : k.length = 6) {M : List (List Int × Bool)} (hM : six M) {σ : Store} {id : Nat} (hm : Store.mapAt σ id = some (encM M)) :
    evLookup tab 73 (.mp id) (.agg (k.map (AV.int .i64))) false σ = some (.bool (getM M k)) := by
  have hf := find_enc hk (ik := ti81) rfl hM 0
  rw [e6] at hf
  unfold ti81 at hf
  simp only [evLookup, tab_73, tab_81, tab_4, cd_81, kCells, TI.agg, TypeDesc.isAgg, if_true, List.length_map, hk, hm]
  rcases hf with ⟨a1, a2, _⟩ | ⟨i, v, a1, a2, _⟩
  · rw [a1, a2]; rfl
  · rw [a1, a2]; rfl

theorem update_enc {k : List Int} (hk : k.length = 6) {M : List (List Int × Bool)} (hM : six M) {σ : Store} {id : Nat} (hm : Store.mapAt σ id = some (encM M)) (b : Bool) :
    evMapUpdate tab 73 (.mp id) (.agg (k.map (AV.int .i64))) (.bool b) σ = some (σ.set id (.map (encM (setM M k b)))) := by
  have hf := find_enc hk (ik := ti81) rfl hM 0
  rw [e6] at hf
  unfold ti81 at hf
  simp only [evMapUpdate, tab_73, tab_81, cd_81, kCells, TI.agg, TypeDesc.isAgg, if_true, List.length_map, hk, hm]
  rcases hf with ⟨a1, _, a3⟩ | ⟨i, v, a1, _, a3⟩
  · rw [a1, a3]
    simp [encM]
  · rw [a1, a3]
    simp [encM, List.map_set]

/-! ### what leads nowhere -/

def sameF (ns ms : List Nd) : Prop := ns.map (fun x => (x.t, x.b)) = ms.map (fun x => (x.t, x.b))

theorem sameF.len {ns ms : List Nd} (h : sameF ns ms) : ns.length = ms.length := by
  have := congrArg List.length h; simpa using this

theorem sameF.trans {a b c : List Nd} (h : sameF a b) (k : sameF b c) : sameF a c := Eq.trans h k
theorem sameF.symm {a b : List Nd} (h : sameF a b) : sameF b a := Eq.symm h

theorem sameF_after {ns : List Nd} {i : Int} (hc : canB ns i = true) : sameF ns (afterL ns i) := by
  obtain ⟨h0, h1, h2⟩ := canB_iff.1 hc
  obtain ⟨k, rfl⟩ : ∃ k : Nat, i = k := ⟨i.toNat, by omega⟩
  have hk : k < ns.length := by omega
  rw [afterL_nat hk hc]
  unfold sameF
  rw [List.map_set]
  have : (fun x : Nd => (x.t, x.b)) (upN ns[k]) = (ns.map fun x => (x.t, x.b))[k]'(by simpa using hk) := by simp [upN]
  simp only at this
  rw [this, List.set_getElem_self]

theorem verS_inj : ∀ {ns ms : List Nd}, sameF ns ms → ns.length ≤ 6 → verS ns = verS ms → ns = ms := by
  intro ns ms h hl hv
  have hlen := h.len
  have h1 : ns.map (·.v) = ms.map (·.v) := by
    unfold verS at hv
    exact (List.append_inj hv (by simp [hlen])).1
  clear hv hl
  unfold sameF at h
  induction ns generalizing ms with
  | nil => cases ms with
    | nil => rfl
    | cons y ms => simp at hlen
  | cons x ns ih =>
    cases ms with
    | nil => simp at hlen
    | cons y ms =>
      simp only [List.map_cons, List.cons.injEq, Prod.mk.injEq] at h h1
      rw [ih h.2 (by simpa using hlen) h1.2]
      congr 1
      cases x; cases y; simp_all

structure Dead (es : List Ed) (fr : List Nd) (M : List (List Int × Bool)) : Prop where
  six : six M
  dead : ∀ ns, sameF fr ns → getM M (verS ns) = true → path es ns = none

theorem Dead.nil (es : List Ed) (fr : List Nd) : Dead es fr [] := ⟨fun e h => absurd h (by simp), fun ns _ h => by cases h⟩

theorem Dead.set {es : List Ed} {fr : List Nd} {M : List (List Int × Bool)} (h : Dead es fr M) {ns : List Nd} (hf : sameF fr ns) (hl : ns.length ≤ 6) (b : Bool) (hb : b = true → path es ns = none) : Dead es fr (setM M (verS ns) b) := by
  refine ⟨six_set h.six (verS_len hl) b, fun ms hm hg => ?_⟩
  rw [getM_set] at hg
  split at hg
  · rename_i he
    have hs : sameF ms ns := hm.symm.trans hf
    rw [verS_inj hs (by rw [hs.len]; exact hl) he]
    exact hb hg
  · exact h.dead ms hm hg

theorem doneTo_succ (ns : List Nd) (i : Nat) : doneTo ns (i + 1) = (doneTo ns i && !canB ns (i : Int)) := by
  unfold doneTo
  rw [List.range_succ, List.all_append]; simp

end Go.Proofs.Ytplddidoobjcnaa
