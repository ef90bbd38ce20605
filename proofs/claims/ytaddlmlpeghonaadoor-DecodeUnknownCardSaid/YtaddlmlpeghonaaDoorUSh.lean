import Derived.Test.YtaddlmlpeghonaaDoorUSg
set_option maxRecDepth 4000
set_option linter.unusedSimpArgs false
set_option linter.unusedVariables false
namespace Go.Proofs.YtaddlmlpeghonaaDoor
open AM
theorem ref_more (n : Nat) : UInt8.ofNat (Int.toNat (IntKind.u8.wrap ((IntKind.u8.wrap ((n : Int).tmod 128)) + 128))) = UInt8.ofNat (n % 128 + 128) := by
 have e : (n : Int).tmod 128 = ((n % 128 : Nat) : Int) := by rw [Int.tmod_eq_emod_of_nonneg (by omega)]; omega
 rw [e, u8w, show ((n % 128 % 256 : Nat) : Int) + 128 = ((n % 128 + 128 : Nat) : Int) by omega, u8w, Int.toNat_natCast]
 congr 1; omega
theorem ref_next {n : Nat} (h : n < 2 ^ 64) : IntKind.u64.wrap ((n : Int).tdiv 128) = ((n / 128 : Nat) : Int) := by
 rw [Int.tdiv_eq_ediv_of_nonneg (by omega), u64i (by omega) (by omega)]; omega
theorem ref02_l : ∀ (k n : Nat) (l : List UInt8), n < 2 ^ 64 → (vb n).length ≤ k → l.length + k ≤ 1000000 → ref02_Put.l8 k l (n : Int) = some (l ++ vb n)
 | 0, n, l, _, h, _ => by have := vb_pos n; omega
 | k + 1, n, l, hn, h, hl => by
  by_cases h1 : n < 128
  · rw [ref02_Put.l8, if_neg (by omega), room_t (by omega), Option.bind_some, lastByte n h1, vb_lt h1]
  · rw [vb_ge h1, List.length_cons] at h
    rw [ref02_Put.l8, if_pos (by omega), room_t (by omega), Option.bind_some, ref_more, ref_next hn, vb_ge h1, ref02_l k (n / 128) _ (by omega) (by omega) (by rw [List.length_append, List.length_singleton]; omega), List.append_assoc]; rfl
theorem ref02_m : ∀ (k j n : Nat) (l r : List UInt8), n < 2 ^ 64 → ref02_Put.l8 k l (n : Int) = some r → ref02_Put.l8 (k + j) l (n : Int) = some r
 | 0, _, _, _, _, _, h => by cases h
 | k + 1, j, n, l, r, hn, h => by
  rw [Nat.succ_add_eq_add_succ, Nat.add_succ]
  by_cases h1 : (128 : Int) ≤ (n : Int)
  · rw [ref02_Put.l8, if_pos h1] at h ⊢
    cases hr : room (List.length l + 1) 1 with
    | none => rw [hr] at h; cases h
    | some u =>
     rw [hr, Option.bind_some, ref_next hn] at h
     rw [Option.bind_some, ref_next hn]; exact ref02_m k j _ _ _ (by omega) h
  · rw [ref02_Put.l8, if_neg h1] at h ⊢; exact h
theorem ref02_Put_eq {n : Nat} (h : n < 2 ^ 64) : ref02_Put (n : Int) = some (vb n) := by
 have := ref02_m 10 999999999999999999990 n [] (vb n) h (ref02_l 10 n [] h (vb_len10 h) (by decide))
 exact this
theorem ref02_Zig_eq {n : Int} (h : In64 n) : ref02_Zig n = (zg n : Int) := by
 obtain ⟨h1, h2⟩ := h
 unfold ref02_Zig zg
 by_cases h0 : 0 ≤ n
 · rw [if_pos h0, if_pos h0, u64i h0 (by omega), u64i (by omega) (by omega)]; omega
 · rw [if_neg h0, if_neg h0, i64_in (x := n + 1) (by omega) (by omega), i64_in (by omega) (by omega), u64i (x := 0 - (n + 1)) (by omega) (by omega), u64i (x := 2 * (0 - (n + 1))) (by omega) (by omega), u64i (by omega) (by omega)]; omega
theorem ref04_Check_eq (r : GRaw) : ref04_Check r = wire_Check r := by
 unfold ref04_Check wire_Check
 by_cases h0 : r.fWire = 0
 · simp only [h0, if_true]
 · by_cases h1 : r.fWire = 1
   · simp only [h1, decide_true, Bool.true_and, if_true]
   · simp only [h0, h1, if_false, decide_false, Bool.false_and]
theorem ref04_Put_eq {r : GRaw} (h : rawOk r) : ref04_Put r = some (rawB r) := by
 obtain ⟨hc, hn⟩ := h
 obtain ⟨h1, h2, h3⟩ := check_cases hc
 have ek : IntKind.u64.wrap (IntKind.i64.wrap ((IntKind.i64.wrap (2 * r.fTag)) + r.fWire)) = ((keyN r : Nat) : Int) := by
  rw [i64_in (x := 2 * r.fTag) (by omega) (by omega), i64_in (by omega) (by omega), u64i (by omega) (by omega), keyN]; omega
 have k1 : keyN r < 2 ^ 64 := by unfold keyN; omega
 have kl := vb_len10 k1
 unfold ref04_Put
 rw [ek, ref02_Put_eq k1, Option.bind_some]
 rcases h3 with ⟨h3, h4⟩ | ⟨h3, h4, h5⟩
 · have hz := vb_len10 (zg_lt hn)
   rw [if_pos h3, bnd, ref02_Zig_eq hn, ref02_Put_eq (zg_lt hn), Option.bind_some, room_t (by omega), Option.bind_some, rawB, if_pos h3]
 · have hb := vb_len10 (n := r.fB.length) (by omega)
   rw [if_neg (by omega), u64w (by omega), ref02_Put_eq (by omega), Option.bind_some, room_t (by omega), Option.bind_some, room_t (by rw [List.length_append]; omega), Option.bind_some, rawB, if_neg (by omega), List.append_assoc]
theorem ref04_l13 : ∀ (q : List GRaw) (x : Int) (acc : List UInt8), (∀ r ∈ q, rawOk r) → acc.length ≤ 4096 → ref04_PutAll.l13 q x acc = some (if 4096 < (acc ++ rawsB q).length then ([], 4) else (acc ++ rawsB q, 0))
 | [], x, acc, _, ha => by
  rw [ref04_PutAll.l13, rawsB, List.flatMap_nil, List.append_nil, if_neg (by omega)]
 | r :: q, x, acc, h, ha => by
  have hr := h r (List.mem_cons_self ..)
  have hrl := rawB_le hr
  rw [ref04_PutAll.l13, ref04_Put_eq hr, Option.bind_some, room_t (by omega), Option.bind_some]
  have e : acc ++ rawsB (r :: q) = (acc ++ rawB r) ++ rawsB q := by rw [rawsB, List.flatMap_cons, List.append_assoc]; rfl
  rw [e]
  by_cases h1 : 4096 < (acc ++ rawB r).length
  · rw [if_pos (by omega), if_pos (by rw [List.length_append]; omega)]
  · rw [if_neg (by omega), ref04_l13 q (x + 1) _ (fun s hs => h s (List.mem_cons_of_mem _ hs)) (by omega)]
theorem ref04_l4 (a : List GRaw) : ∀ (q : List GRaw) (x : Int), ref04_PutAll.l4 a q x = if q.all wire_Check then ref04_PutAll.l13 a 0 [] else some ([], 1)
 | [], x => by rw [ref04_PutAll.l4]; rfl
 | r :: q, x => by
  rw [ref04_PutAll.l4, bnd, List.all_cons, ref04_Check_eq]
  by_cases h : wire_Check r = true
  · rw [h, if_neg (by decide), ref04_l4 a q]; rfl
  · rw [if_pos (by simpa using h), if_neg (by rw [Bool.and_eq_true]; exact fun hh => h hh.1)]
theorem ref04_PutAll_eq {l : List GRaw} (h : ∀ r ∈ l, In64 r.fN) : ref04_PutAll l = wire_PutAll l := by
 rw [putAll_eq h, ref04_PutAll, ref04_l4]
 by_cases h1 : l.all wire_Check = true
 · rw [if_pos h1, if_pos h1, ref04_l13 l 0 [] (fun r hr => ⟨List.all_eq_true.1 h1 r hr, h r hr⟩) (by decide)]; rfl
 · rw [if_neg h1, if_neg h1]
theorem set_app0 {α : Type} {A B : List α} {x y : α} {i : Int} (h : i = A.length) : setI (A ++ x :: B) i y = A ++ y :: B := by
 subst h
 rw [setI, Int.toNat_natCast, List.set_append_right _ _ (Nat.le_refl _), Nat.sub_self, List.set_cons_zero]
theorem ref_l20 {r : GRaw} (x4 : Int) (rec8 : Int → List GRaw → Option (List GRaw)) : ∀ (k : Nat) (A B : List GRaw), A.Pairwise TagLe → (∀ b ∈ B, r.fTag < b.fTag) → A.length < k → A.length < 1000000 →
 ref04_Sorted.l20 x4 rec8 k (A ++ r :: B) (A.length : Int) = rec8 (x4 + 1) (insR r (A ++ B))
 | 0, A, B, _, _, h, _ => by omega
 | k + 1, A, B, hA, hB, hk, hn => by
  have stop : (∀ a ∈ A, a.fTag ≤ r.fTag) → ref04_Sorted.j23 x4 rec8 (A ++ r :: B) (A.length : Int) (ref04_Sorted.l20 x4 rec8 k) false = rec8 (x4 + 1) (insR r (A ++ B)) := by
   intro hle
   rw [ref04_Sorted.j23, if_neg (by decide), insR_app hle hB]
  rcases List.eq_nil_or_concat A with rfl | ⟨A', a, rfl⟩
  · rw [ref04_Sorted.l20, if_neg (by simp)]
    exact stop (fun a ha => by cases ha)
  · rw [List.concat_eq_append] at *
    have hlA : (A' ++ [a]).length = A'.length + 1 := by rw [List.length_append, List.length_singleton]
    have e1 : IntKind.i64.wrap (((A' ++ [a]).length : Int) - 1) = (A'.length : Int) := by rw [i64_in (by omega) (by omega)]; omega
    have i1 : idxL ((A' ++ [a]) ++ r :: B) (A'.length : Int) = some a := by rw [List.append_assoc]; exact idx_app rfl
    have i2 : idxL ((A' ++ [a]) ++ r :: B) ((A' ++ [a]).length : Int) = some r := idx_app rfl
    rw [ref04_Sorted.l20, if_pos (by omega), e1, i1, Option.bind_some, i2, Option.bind_some]
    by_cases hgt : r.fTag < a.fTag
    · have s1 : setI ((A' ++ [a]) ++ r :: B) (A'.length : Int) r = (A' ++ [r]) ++ r :: B := by
       rw [List.append_assoc, List.append_assoc]; exact set_app0 rfl
      have i3 : idxL ((A' ++ [r]) ++ r :: B) ((A' ++ [a]).length : Int) = some r := idx_app (by rw [hlA, List.length_append, List.length_singleton])
      have s2 : setI ((A' ++ [r]) ++ r :: B) ((A' ++ [a]).length : Int) a = (A' ++ [r]) ++ a :: B := set_app0 (by rw [hlA, List.length_append, List.length_singleton])
      rw [decide_eq_true hgt, ref04_Sorted.j23, if_pos rfl, i2, Option.bind_some, e1, i1, Option.bind_some, s1, i3, Option.bind_some, s2, List.append_assoc]
      have := ref_l20 (r := r) x4 rec8 k A' (a :: B) (List.pairwise_append.1 hA).1 (fun b hb => by
       rcases List.mem_cons.1 hb with rfl | hb
       · exact hgt
       · exact hB b hb) (by omega) (by omega)
      rw [List.append_assoc]
      exact this
    · rw [decide_eq_false hgt]
      refine stop ?_
      intro x hx
      rcases List.mem_append.1 hx with hx | hx
      · have := (List.pairwise_append.1 hA).2.2 x hx a (List.mem_singleton.2 rfl)
        unfold TagLe at this; omega
      · rw [List.mem_singleton] at hx; subst hx; omega
theorem ref_l8 : ∀ (q S : List GRaw) (x : Int), S.Pairwise TagLe → S.length + q.length < 1000000 → ref04_Sorted.l8 q x S = some (srtA q S)
 | [], S, x, _, _ => rfl
 | r :: q, S, x, hS, hn => by
  rw [List.length_cons] at hn
  rw [ref04_Sorted.l8, room_t (by omega), Option.bind_some]
  have := ref_l20 (r := r) x (ref04_Sorted.l8 q) rounds S [] hS (fun b hb => by cases hb) (by have := rounds_big; omega) (by omega)
  rw [List.append_nil] at this
  rw [this, ref_l8 q (insR r S) _ (insR_sorted hS) (by rw [insR_len]; omega), srtA]
theorem ref04_Sorted_eq {l : List GRaw} (h : l.length < 1000000) : ref04_Sorted l = some (srt l) :=
 ref_l8 l [] 0 List.Pairwise.nil (by rw [List.length_nil]; omega)
theorem ref04_ris : ∀ (L : List GRaw) (k : Nat) (x : Int), ref04_Rising.l4 L k x = wire_Rising.l4 L k x
 | L, 0, x => rfl
 | L, k + 1, x => by
  rw [ref04_Rising.l4, wire_Rising.l4]
  simp only [ref04_ris L k]
theorem ref04_Rising_eq (l : List GRaw) : ref04_Rising l = wire_Rising l := ref04_ris l rounds 1
theorem rdeep_l18 {self : GTree → Int → Option Int} {m : Nat} {a : Int} (ha : a = 100 - m) (hm : m ≤ 100) (hs : ∀ x, self x (a + 1) = some ((depT m x : Nat) : Int)) {x7 : Int} {rec10 : Int → Int → Option Int} : ∀ (l : List GTree) (i : Int) (d : Nat),
 ref09_depth.l18 self a x7 rec10 l i (d : Int) = rec10 (x7 + 1) ((maxD (depT m) l d : Nat) : Int)
 | [], i, d => rfl
 | x :: l, i, d => by
  rw [ref09_depth.l18, i64_in (by omega) (by omega), hs, Option.bind_some, maxD]
  have e : (if (d : Int) < ((depT m x : Nat) : Int) then ((depT m x : Nat) : Int) else (d : Int)) = ((max d (depT m x) : Nat) : Int) := by split <;> omega
  rw [e]; exact rdeep_l18 ha hm hs l _ _
theorem rdeep_l10 {self : GTree → Int → Option Int} {m : Nat} {a : Int} (ha : a = 100 - m) (hm : m ≤ 100) (hs : ∀ x, self x (a + 1) = some ((depT m x : Nat) : Int)) : ∀ (l : List GEntry) (i : Int) (d : Nat), d ≤ m →
 ref09_depth.l10 self a l i (d : Int) = some ((maxD (depT m) (l.flatMap GEntry.fTrees) d + 1 : Nat) : Int)
 | [], i, d, hd => by
  rw [ref09_depth.l10, i64_in (by omega) (by omega), List.flatMap_nil, maxD, if_neg (by omega)]; rfl
 | e :: l, i, d, hd => by
  rw [ref09_depth.l10, rdeep_l18 ha hm hs, rdeep_l10 ha hm hs l _ _ (maxD_le hd fun x _ => depT_le m x), List.flatMap_cons, maxD_app]
theorem rdeep_eq : ∀ (m k : Nat) (t : GTree) (a : Int), m ≤ 101 → m < k → a = 101 - m → ref09_depth k t a = some ((depT m t : Nat) : Int)
 | m, 0, t, a, _, h, _ => by omega
 | 0, k + 1, t, a, _, _, ha => by
  rw [ref09_depth, ref09_depth.body, if_pos (by simp only [Bool.or_eq_true, decide_eq_true_eq]; right; omega)]; rfl
 | m + 1, k + 1, t, a, hm, hk, ha => by
  rw [ref09_depth, ref09_depth.body, depT]
  by_cases h3 : t.fKind = 3
  · rw [if_neg (by simp only [h3, decide_true, Bool.not_true, Bool.false_or, decide_eq_true_eq]; omega), if_pos h3]
    exact rdeep_l10 (by omega) (by omega) (fun x => rdeep_eq m k x _ (by omega) (by omega) (by omega)) t.fEntries 0 0 (Nat.zero_le _)
  · rw [if_pos (by simp [h3]), if_neg h3]; rfl
theorem ref09_Depth_eq (t : GTree) : ref09_Depth t = some ((depT 101 t : Nat) : Int) := by
 rw [ref09_Depth, rdeep_eq 101 rounds t 0 (by omega) (by have := rounds_big; omega) (by omega)]; rfl
theorem rhas_eq {a : Int} : ∀ (l : List GEntry) (i : Int), ref09_Has.l4 a l i = l.any fun e => decide (e.fTag = a)
 | [], i => rfl
 | e :: l, i => by
  rw [ref09_Has.l4, List.any_cons]
  by_cases h : e.fTag = a
  · rw [if_pos h, decide_eq_true h, Bool.true_or]
  · rw [if_neg h, decide_eq_false h, Bool.false_or, rhas_eq]
theorem rrest_l4 {t : GTree} (hr : t.fRest.length < 4611686018427387904) : ∀ (l : List GRaw) (i : Int), ref09_rest.l4 t l i = some (l.all (fun r => wire_Check r && !(t.fEntries.any fun e => decide (e.fTag = r.fTag))) && risB t.fRest)
 | [], i => by rw [ref09_rest.l4, ref04_Rising_eq, rising_eq hr]; rfl
 | r :: l, i => by
  rw [ref09_rest.l4, bnd, List.all_cons, ref04_Check_eq]
  cases hc : wire_Check r with
  | false => rfl
  | true =>
   rw [if_neg (by decide), bnd, ref09_Has, rhas_eq]
   cases ha : t.fEntries.any fun e => decide (e.fTag = r.fTag) with
   | true => rfl
   | false => rw [ref09_rest.j10, if_neg (by decide), rrest_l4 hr l]; rfl
theorem rentries_l18 {self : GTree → Option Bool} {f : GTree → Bool} {x3 : Int} {rec6 : Int → Int → Option Bool} {y : GEntry} (hy : 1 ≤ y.fTrees.length) : ∀ (l : List GTree) (i : Int), (∀ x ∈ l, self x = some (f x)) →
 ref09_entries.l18 self x3 rec6 y l i = if (l.all fun x => decide (x.fKind = (y.fTrees.headD zTree).fKind) && f x) = true then rec6 (x3 + 1) y.fTag else some false
 | [], i, _ => by rw [ref09_entries.l18]; rfl
 | x :: l, i, h => by
  have e1 : idxL y.fTrees 0 = some (y.fTrees.headD zTree) := by
   cases ht : y.fTrees with
   | nil => rw [ht] at hy; exact absurd hy (by decide)
   | cons a l => rfl
  rw [ref09_entries.l18, e1, Option.bind_some, List.all_cons]
  by_cases hk : x.fKind = (y.fTrees.headD zTree).fKind
  · rw [if_pos hk, h x (List.mem_cons_self ..), Option.bind_some, decide_eq_true hk, Bool.true_and]
    cases f x with
    | false => rfl
    | true =>
     rw [ref09_entries.j23, if_neg (by decide), rentries_l18 hy l _ fun z hz => h z (List.mem_cons_of_mem _ hz), Bool.true_and]
  · rw [if_neg hk, decide_eq_false hk]; rfl
theorem rentries_l6 {self : GTree → Option Bool} {f : GTree → Bool} : ∀ (l : List GEntry) (i last : Int), (∀ e ∈ l, ∀ x ∈ e.fTrees, self x = some (f x)) → ref09_entries.l6 self l i last = some (entB f last l)
 | [], i, last, _ => rfl
 | e :: l, i, last, h => by
  rw [ref09_entries.l6, entB]
  by_cases hc : last < e.fTag ∧ e.fTag ≤ 500 ∧ 1 ≤ e.fTrees.length ∧ e.fTrees.length ≤ 64
  · rw [if_neg (by simp only [Bool.or_eq_true, decide_eq_true_eq]; omega), rentries_l18 hc.2.2.1 e.fTrees 0 (h e (List.mem_cons_self ..)), decide_eq_true hc, Bool.true_and]
    cases ha : e.fTrees.all fun x => decide (x.fKind = (e.fTrees.headD zTree).fKind) && f x with
    | false => rfl
    | true => rw [if_pos rfl, rentries_l6 l _ _ fun y hy => h y (List.mem_cons_of_mem _ hy), Bool.true_and]
  · rw [if_pos (by simp only [Bool.or_eq_true, decide_eq_true_eq]; omega), decide_eq_false hc]; rfl
theorem rright_eq : ∀ (d m k : Nat) (t : GTree), d < m → depT m t ≤ d → 2 * d < k → szT d t → ref09_check k t = some (rightT d t)
 | d, m, 0, t, _, _, h, _ => by omega
 | 0, m + 1, k + 1, t, _, hd, _, hz => by
  have h3 : ¬ t.fKind = 3 := by
   intro h; rw [depT, if_pos h] at hd; omega
  rw [ref09_check, ref09_check.body, rightT, leafB, if_neg h3]
  split <;> first | rfl | (split <;> rfl)
 | d + 1, m + 1, k + 1, t, hm, hd, hk, hz => by
  rw [ref09_check, ref09_check.body, rightT]
  by_cases h3 : t.fKind = 3
  · have hd' : maxD (depT m) (kids t) 0 ≤ d := by rw [depT, if_pos h3] at hd; omega
    obtain ⟨k', rfl⟩ : ∃ k', k = k' + 1 := ⟨k - 1, by omega⟩
    have he : ref09_entries (k' + 1) t.fEntries = some (entB (rightT d) 0 t.fEntries) := by
     rw [ref09_entries, ref09_entries.body]
     exact rentries_l6 t.fEntries 0 0 fun e he x hx => rright_eq d m k' x (by omega) (Nat.le_trans (maxD_mem (kids_mem he hx)) hd') (by omega) (hz.2 x (kids_mem he hx))
    have hr : ref09_rest t = some (restB t) := rrest_l4 (by have := hz.1.2.1; omega) _ _
    rw [if_neg (by omega), if_neg (by omega), if_pos h3, if_pos h3, he, hr]
    cases decide (t.fN = 0) && decide (t.fS = []) with
    | false => rfl
    | true => cases entB (rightT d) 0 t.fEntries <;> rfl
  · rw [if_neg h3, if_neg h3, leafB]
    split <;> first | rfl | (split <;> rfl)
theorem ref09_Check_eq {t : GTree} (hz : szT 10 t) : ref09_Check t = some (checkT t) := by
 rw [ref09_Check, ref09_Depth_eq, Option.bind_some, checkT]
 by_cases h : depT 101 t ≤ 10
 · rw [if_pos (by omega), rright_eq 10 101 rounds t (by omega) h (by have := rounds_big; omega) hz, decide_eq_true h, Bool.true_and]; rfl
 · rw [if_neg (by omega), decide_eq_false h]; rfl
end Go.Proofs.YtaddlmlpeghonaaDoor
