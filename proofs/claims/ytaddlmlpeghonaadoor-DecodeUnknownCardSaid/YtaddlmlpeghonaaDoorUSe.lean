import Derived.Test.YtaddlmlpeghonaaDoorUSd
set_option maxRecDepth 4000
set_option linter.unusedSimpArgs false
set_option linter.unusedVariables false
namespace Go.Proofs.YtaddlmlpeghonaaDoor
open AM
def maxD (f : GTree → Nat) : List GTree → Nat → Nat
 | [], d => d
 | x :: l, d => maxD f l (max d (f x))
theorem maxD_ge {f : GTree → Nat} : ∀ (l : List GTree) (d : Nat), d ≤ maxD f l d
 | [], d => Nat.le_refl _
 | x :: l, d => Nat.le_trans (Nat.le_max_left _ _) (maxD_ge l _)
theorem maxD_mem {f : GTree → Nat} {x : GTree} : ∀ {l : List GTree} {d : Nat}, x ∈ l → f x ≤ maxD f l d
 | y :: l, d, h => by
  rw [maxD]
  rcases List.mem_cons.1 h with rfl | h
  · exact Nat.le_trans (Nat.le_max_right _ _) (maxD_ge l _)
  · exact maxD_mem h
theorem maxD_le {f : GTree → Nat} {n : Nat} : ∀ {l : List GTree} {d : Nat}, d ≤ n → (∀ x ∈ l, f x ≤ n) → maxD f l d ≤ n
 | [], d, h, _ => h
 | x :: l, d, h, hl => maxD_le (l := l) (Nat.max_le.2 ⟨h, hl x (List.mem_cons_self ..)⟩) fun y hy => hl y (List.mem_cons_of_mem _ hy)
theorem maxD_app (f : GTree → Nat) : ∀ (l m : List GTree) (d : Nat), maxD f (l ++ m) d = maxD f m (maxD f l d)
 | [], _, _ => rfl
 | x :: l, m, d => maxD_app f l m _
def kids (t : GTree) : List GTree := t.fEntries.flatMap GEntry.fTrees
def depT : Nat → GTree → Nat
 | 0, _ => 0
 | m + 1, t => if t.fKind = 3 then maxD (depT m) (kids t) 0 + 1 else 0
theorem depT_le : ∀ (m : Nat) (t : GTree), depT m t ≤ m
 | 0, _ => Nat.le_refl _
 | m + 1, t => by
  rw [depT]; split
  · exact Nat.succ_le_succ (maxD_le (Nat.zero_le _) fun x _ => depT_le m x)
  · exact Nat.zero_le _
theorem deep_l20 {self : GTree → Int → Option Int} {m : Nat} (hm : m < 1000) (hs : ∀ x, self x (m : Int) = some ((depT m x : Nat) : Int)) {x7 : Int} {rec10 : Int → Int → Option Int} : ∀ (l : List GTree) (i : Int) (d : Nat),
 value_deep.l20 self ((m + 1 : Nat) : Int) x7 rec10 l i (d : Int) = rec10 (x7 + 1) ((maxD (depT m) l d : Nat) : Int)
 | [], i, d => rfl
 | x :: l, i, d => by
  rw [value_deep.l20, show IntKind.i64.wrap (((m + 1 : Nat) : Int) - 1) = (m : Int) by rw [i64_in (by omega) (by omega)]; omega, hs, Option.bind_some, maxD]
  have e : (if (d : Int) < ((depT m x : Nat) : Int) then ((depT m x : Nat) : Int) else (d : Int)) = ((max d (depT m x) : Nat) : Int) := by split <;> omega
  rw [e]; exact deep_l20 hm hs l _ _
theorem deep_l10 {self : GTree → Int → Option Int} {m : Nat} (hm : m < 1000) (hs : ∀ x, self x (m : Int) = some ((depT m x : Nat) : Int)) : ∀ (l : List GEntry) (i : Int) (d : Nat), d ≤ 1000 →
 value_deep.l10 self ((m + 1 : Nat) : Int) l i (d : Int) = some ((maxD (depT m) (l.flatMap GEntry.fTrees) d + 1 : Nat) : Int)
 | [], i, d, hd => by
  rw [value_deep.l10, i64_in (by omega) (by omega), List.flatMap_nil, maxD]; rfl
 | e :: l, i, d, hd => by
  rw [value_deep.l10, deep_l20 hm hs, deep_l10 hm hs l _ _ (maxD_le hd fun x _ => Nat.le_trans (depT_le m x) (by omega)), List.flatMap_cons, maxD_app]
theorem deep_eq : ∀ (m k : Nat) (t : GTree), m < 1000 → m < k → value_deep k t (m : Int) = some ((depT m t : Nat) : Int)
 | m, 0, t, _, h => by omega
 | 0, k + 1, t, _, _ => by
  rw [value_deep, value_deep.body, if_pos (by simp)]; rfl
 | m + 1, k + 1, t, hm, hk => by
  rw [value_deep, value_deep.body, depT]
  by_cases h3 : t.fKind = 3
  · rw [if_neg (by simp only [h3, decide_true, Bool.not_true, Bool.false_or, decide_eq_true_eq]; omega), if_pos h3]
    exact deep_l10 (by omega) (fun x => deep_eq m k x (by omega) (by omega)) t.fEntries 0 0 (by omega)
  · rw [if_pos (by simp [h3]), if_neg h3]; rfl
theorem Depth_eq (t : GTree) : value_Depth t = some ((depT 101 t : Nat) : Int) := by
 rw [value_Depth, show (101 : Int) = ((101 : Nat) : Int) from rfl, deep_eq 101 rounds t (by omega) (by have := rounds_big; omega)]; rfl
def risB : List GRaw → Bool
 | a :: b :: l => decide (a.fTag ≤ b.fTag) && risB (b :: l)
 | _ => true
theorem risB_iff : ∀ {l : List GRaw}, risB l = true ↔ l.Pairwise TagLe
 | [] => by simp [risB]
 | [a] => by simp [risB]
 | a :: b :: l => by
  rw [risB, Bool.and_eq_true, decide_eq_true_eq, risB_iff, List.pairwise_cons (a := a)]
  constructor
  · rintro ⟨h1, h2⟩
    refine ⟨?_, h2⟩
    intro c hc
    rcases List.mem_cons.1 hc with rfl | hc
    · exact h1
    · have := (List.pairwise_cons.1 h2).1 c hc; unfold TagLe at *; omega
  · rintro ⟨h1, h2⟩
    exact ⟨h1 b (List.mem_cons_self ..), h2⟩
theorem rising_l {L : List GRaw} (hL : L.length < 4611686018427387904) : ∀ (k : Nat) (A : List GRaw) (a : GRaw) (B : List GRaw), L = A ++ a :: B → B.length < k → wire_Rising.l4 L k ((A.length + 1 : Nat) : Int) = some (risB (a :: B))
 | 0, _, _, _, _, h => by omega
 | k + 1, A, a, [], h, _ => by
  rw [wire_Rising.l4, if_neg (by rw [h, List.length_append, List.length_singleton]; omega)]; rfl
 | k + 1, A, a, b :: B, h, hk => by
  have hl : L.length = A.length + (B.length + 2) := by rw [h, List.length_append, List.length_cons, List.length_cons]
  have e1 : idxL L ((A.length + 1 : Nat) : Int) = some b := by
   rw [h, show A ++ a :: b :: B = (A ++ [a]) ++ b :: B by rw [List.append_assoc]; rfl]
   exact idx_app (by rw [List.length_append, List.length_singleton])
  have e2 : IntKind.i64.wrap (((A.length + 1 : Nat) : Int) - 1) = (A.length : Int) := by rw [i64_in (by omega) (by omega)]; omega
  have e3 : idxL L (A.length : Int) = some a := by rw [h]; exact idx_app rfl
  have e4 : IntKind.i64.wrap (((A.length + 1 : Nat) : Int) + 1) = (((A ++ [a]).length + 1 : Nat) : Int) := by rw [i64_in (by omega) (by omega), List.length_append, List.length_singleton]; omega
  rw [wire_Rising.l4, if_pos (by omega), e1, Option.bind_some, e2, e3, Option.bind_some, risB]
  by_cases hlt : b.fTag < a.fTag
  · rw [if_pos hlt, decide_eq_false (by omega)]; rfl
  · rw [if_neg hlt, e4, rising_l hL k (A ++ [a]) b B (by rw [h, List.append_assoc]; rfl) (by simpa using hk), decide_eq_true (by omega), Bool.true_and]
theorem rising_eq {l : List GRaw} (h : l.length < 4611686018427387904) : wire_Rising l = some (risB l) := by
 cases l with
 | nil => rfl
 | cons a l => exact rising_l h rounds [] a l rfl (by have := rounds_big; rw [List.length_cons] at h; omega)
def restB (t : GTree) : Bool := t.fRest.all (fun r => wire_Check r && !(t.fEntries.any fun e => decide (e.fTag = r.fTag))) && risB t.fRest
theorem rest_l16 {x2 : Int} {rec4 : Int → Option Bool} {y : GRaw} : ∀ (l : List GEntry) (i : Int), value_rest.l16 x2 rec4 y l i = if (l.any fun e => decide (e.fTag = y.fTag)) = true then some false else rec4 (x2 + 1)
 | [], i => by rw [value_rest.l16]; rfl
 | e :: l, i => by
  rw [value_rest.l16, List.any_cons]
  by_cases h : e.fTag = y.fTag
  · rw [if_pos h, decide_eq_true h, Bool.true_or, if_pos rfl]
  · rw [if_neg h, decide_eq_false h, Bool.false_or, rest_l16]
theorem rest_l4 {t : GTree} (hr : t.fRest.length < 4611686018427387904) : ∀ (l : List GRaw) (i : Int), value_rest.l4 t l i = some (l.all (fun r => wire_Check r && !(t.fEntries.any fun e => decide (e.fTag = r.fTag))) && risB t.fRest)
 | [], i => by rw [value_rest.l4, rising_eq hr]; rfl
 | r :: l, i => by
  rw [value_rest.l4, bnd, List.all_cons]
  cases hc : wire_Check r with
  | false => rfl
  | true =>
   rw [if_neg (by decide), rest_l16]
   cases ha : t.fEntries.any fun e => decide (e.fTag = r.fTag) with
   | true => rfl
   | false => rw [if_neg (by decide), rest_l4 hr l]; rfl
theorem rest_eq {t : GTree} (hr : t.fRest.length < 4611686018427387904) : value_rest t = some (restB t) := rest_l4 hr _ _
def entB (f : GTree → Bool) : Int → List GEntry → Bool
 | _, [] => true
 | last, e :: l => decide (last < e.fTag ∧ e.fTag ≤ 500 ∧ 1 ≤ e.fTrees.length ∧ e.fTrees.length ≤ 64) && (e.fTrees.all fun x => decide (x.fKind = (e.fTrees.headD zTree).fKind) && f x) && entB f e.fTag l
def leafB (t : GTree) : Bool :=
 if t.fKind = 1 then decide (t.fS = []) && decide ((List.length t.fEntries : Int) = 0) && decide ((List.length t.fRest : Int) = 0)
 else if t.fKind = 2 then decide (t.fN = 0) && decide ((List.length t.fEntries : Int) = 0) && decide ((List.length t.fRest : Int) = 0)
 else false
def rightT : Nat → GTree → Bool
 | 0, t => leafB t
 | d + 1, t => if t.fKind = 3 then decide (t.fN = 0) && decide (t.fS = []) && entB (rightT d) 0 t.fEntries && restB t else leafB t
def ownS (t : GTree) : Prop := In64 t.fN ∧ t.fRest.length ≤ 900000 ∧ ∀ r ∈ t.fRest, In64 r.fN
def szT : Nat → GTree → Prop
 | 0, t => ownS t
 | d + 1, t => ownS t ∧ ∀ x ∈ kids t, szT d x
theorem entries_l18 {self : GTree → Option Bool} {f : GTree → Bool} {x3 : Int} {rec6 : Int → Int → Option Bool} {y : GEntry} (hy : 1 ≤ y.fTrees.length) : ∀ (l : List GTree) (i : Int), (∀ x ∈ l, self x = some (f x)) →
 value_entries.l18 self x3 rec6 y l i = if (l.all fun x => decide (x.fKind = (y.fTrees.headD zTree).fKind) && f x) = true then rec6 (x3 + 1) y.fTag else some false
 | [], i, _ => by rw [value_entries.l18]; rfl
 | x :: l, i, h => by
  have e1 : idxL y.fTrees 0 = some (y.fTrees.headD zTree) := by
   cases ht : y.fTrees with
   | nil => rw [ht] at hy; exact absurd hy (by decide)
   | cons a l => rfl
  rw [value_entries.l18, e1, Option.bind_some, List.all_cons]
  by_cases hk : x.fKind = (y.fTrees.headD zTree).fKind
  · rw [if_pos hk, h x (List.mem_cons_self ..), Option.bind_some, decide_eq_true hk, Bool.true_and]
    cases f x with
    | false => rfl
    | true =>
     rw [value_entries.j25, if_neg (by decide), entries_l18 hy l _ fun z hz => h z (List.mem_cons_of_mem _ hz), Bool.true_and]
  · rw [if_neg hk, decide_eq_false hk]; rfl
theorem entries_l6 {self : GTree → Option Bool} {f : GTree → Bool} : ∀ (l : List GEntry) (i last : Int), (∀ e ∈ l, ∀ x ∈ e.fTrees, self x = some (f x)) → value_entries.l6 self l i last = some (entB f last l)
 | [], i, last, _ => rfl
 | e :: l, i, last, h => by
  rw [value_entries.l6, entB]
  by_cases hc : last < e.fTag ∧ e.fTag ≤ 500 ∧ 1 ≤ e.fTrees.length ∧ e.fTrees.length ≤ 64
  · rw [if_neg (by simp only [Bool.or_eq_true, decide_eq_true_eq]; omega), entries_l18 hc.2.2.1 e.fTrees 0 (h e (List.mem_cons_self ..)), decide_eq_true hc, Bool.true_and]
    cases ha : e.fTrees.all fun x => decide (x.fKind = (e.fTrees.headD zTree).fKind) && f x with
    | false => rfl
    | true => rw [if_pos rfl, entries_l6 l _ _ fun y hy => h y (List.mem_cons_of_mem _ hy), Bool.true_and]
  · rw [if_pos (by simp only [Bool.or_eq_true, decide_eq_true_eq]; omega), decide_eq_false hc]; rfl
theorem kids_mem {t : GTree} {e : GEntry} {x : GTree} (he : e ∈ t.fEntries) (hx : x ∈ e.fTrees) : x ∈ kids t := List.mem_flatMap.2 ⟨e, he, hx⟩
theorem right_eq : ∀ (d m k : Nat) (t : GTree), d < m → depT m t ≤ d → 2 * d < k → szT d t → value_right k t = some (rightT d t)
 | d, m, 0, t, _, _, h, _ => by omega
 | 0, m + 1, k + 1, t, _, hd, _, hz => by
  have h3 : ¬ t.fKind = 3 := by
   intro h; rw [depT, if_pos h] at hd; omega
  rw [value_right, value_right.body, rightT, leafB, if_neg h3]
  split <;> first | rfl | (split <;> rfl)
 | d + 1, m + 1, k + 1, t, hm, hd, hk, hz => by
  rw [value_right, value_right.body, rightT]
  by_cases h3 : t.fKind = 3
  · have hd' : maxD (depT m) (kids t) 0 ≤ d := by rw [depT, if_pos h3] at hd; omega
    obtain ⟨k', rfl⟩ : ∃ k', k = k' + 1 := ⟨k - 1, by omega⟩
    have he : value_entries (k' + 1) t = some (entB (rightT d) 0 t.fEntries) := by
     rw [value_entries, value_entries.body]
     exact entries_l6 t.fEntries 0 0 fun e he x hx => right_eq d m k' x (by omega) (Nat.le_trans (maxD_mem (kids_mem he hx)) hd') (by omega) (hz.2 x (kids_mem he hx))
    rw [if_neg (by omega), if_neg (by omega), if_pos h3, if_pos h3, he, rest_eq (by have := hz.1.2.1; omega)]
    cases decide (t.fN = 0) && decide (t.fS = []) with
    | false => rfl
    | true => cases entB (rightT d) 0 t.fEntries <;> rfl
  · rw [if_neg h3, if_neg h3, leafB]
    split <;> first | rfl | (split <;> rfl)
def checkT (t : GTree) : Bool := decide (depT 101 t ≤ 10) && rightT 10 t
theorem check_eq {t : GTree} (hz : szT 10 t) : value_Check t = some (checkT t) := by
 rw [value_Check, Depth_eq, Option.bind_some, checkT]
 by_cases h : depT 101 t ≤ 10
 · rw [if_pos (by omega), right_eq 10 101 rounds t (by omega) h (by have := rounds_big; omega) hz, decide_eq_true h, Bool.true_and]; rfl
 · rw [if_neg (by omega), decide_eq_false h]; rfl
end Go.Proofs.YtaddlmlpeghonaaDoor
