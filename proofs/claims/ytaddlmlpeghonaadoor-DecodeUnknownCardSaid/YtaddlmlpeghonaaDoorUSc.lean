import Derived.Test.YtaddlmlpeghonaaDoorUSb
set_option maxRecDepth 4000
set_option linter.unusedSimpArgs false
set_option linter.unusedVariables false
namespace Go.Proofs.YtaddlmlpeghonaaDoor
open AM
def insR (r : GRaw) : List GRaw → List GRaw
 | [] => [r]
 | x :: l => if r.fTag < x.fTag then r :: x :: l else x :: insR r l
def srtA : List GRaw → List GRaw → List GRaw
 | [], S => S
 | r :: q, S => srtA q (insR r S)
def srt (l : List GRaw) : List GRaw := srtA l []
def TagLe (a b : GRaw) : Prop := a.fTag ≤ b.fTag
theorem insR_app {r : GRaw} : ∀ {A B : List GRaw}, (∀ a ∈ A, a.fTag ≤ r.fTag) → (∀ b ∈ B, r.fTag < b.fTag) → insR r (A ++ B) = A ++ r :: B
 | [], [], _, _ => rfl
 | [], b :: B, _, hB => by
  rw [List.nil_append, insR, if_pos (hB b (List.mem_cons_self ..))]; rfl
 | a :: A, B, hA, hB => by
  rw [List.cons_append, insR, if_neg (by have := hA a (List.mem_cons_self ..); omega), insR_app (fun x hx => hA x (List.mem_cons_of_mem _ hx)) hB]; rfl
theorem insR_mem {r x : GRaw} : ∀ {l : List GRaw}, x ∈ insR r l ↔ x = r ∨ x ∈ l
 | [] => by simp [insR]
 | y :: l => by
  rw [insR]; split
  · simp
  · rw [List.mem_cons, insR_mem, List.mem_cons]
    constructor
    · rintro (h | h | h)
      · exact Or.inr (Or.inl h)
      · exact Or.inl h
      · exact Or.inr (Or.inr h)
    · rintro (h | h | h)
      · exact Or.inr (Or.inl h)
      · exact Or.inl h
      · exact Or.inr (Or.inr h)
theorem insR_len (r : GRaw) : ∀ l : List GRaw, (insR r l).length = l.length + 1
 | [] => rfl
 | x :: l => by
  rw [insR]; split
  · rfl
  · rw [List.length_cons, insR_len r l, List.length_cons]
theorem insR_sorted {r : GRaw} : ∀ {l : List GRaw}, l.Pairwise TagLe → (insR r l).Pairwise TagLe
 | [], _ => by simp [insR]
 | x :: l, h => by
  rw [List.pairwise_cons] at h
  rw [insR]; split
  · rename_i hlt
    rw [List.pairwise_cons, List.pairwise_cons]
    refine ⟨?_, h⟩
    intro y hy
    rcases List.mem_cons.1 hy with rfl | hy
    · unfold TagLe; omega
    · have := h.1 y hy; unfold TagLe at *; omega
  · rename_i hge
    rw [List.pairwise_cons]
    refine ⟨?_, insR_sorted h.2⟩
    intro y hy
    rcases insR_mem.1 hy with rfl | hy
    · unfold TagLe; omega
    · exact h.1 y hy
theorem insR_filter {r : GRaw} (t : Int) : ∀ {l : List GRaw}, l.Pairwise TagLe → (insR r l).filter (fun x => x.fTag = t) = l.filter (fun x => x.fTag = t) ++ (if r.fTag = t then [r] else [])
 | [], _ => by rw [insR, List.filter_nil, List.nil_append, List.filter_cons, List.filter_nil]; simp only [decide_eq_true_eq]
 | x :: l, h => by
  rw [List.pairwise_cons] at h
  rw [insR]; split
  · rename_i hlt
    rw [List.filter_cons]
    by_cases hr : r.fTag = t
    · have hn : (x :: l).filter (fun x => x.fTag = t) = [] := by
       rw [List.filter_eq_nil_iff]
       intro y hy
       simp only [decide_eq_true_eq]
       rcases List.mem_cons.1 hy with rfl | hy
       · omega
       · have := h.1 y hy; unfold TagLe at this; omega
      rw [hn, if_pos (by simpa using hr), if_pos hr]; rfl
    · rw [if_neg (by simpa using hr), if_neg hr, List.append_nil]
  · rw [List.filter_cons, List.filter_cons, insR_filter t h.2]
    split <;> rfl
theorem srtA_sorted : ∀ {l S : List GRaw}, S.Pairwise TagLe → (srtA l S).Pairwise TagLe
 | [], _, h => h
 | r :: l, S, h => by rw [srtA]; exact srtA_sorted (l := l) (insR_sorted h)
theorem srt_sorted (l : List GRaw) : (srt l).Pairwise TagLe := srtA_sorted List.Pairwise.nil
theorem srtA_len : ∀ (l S : List GRaw), (srtA l S).length = S.length + l.length
 | [], _ => rfl
 | r :: l, S => by rw [srtA, srtA_len, insR_len, List.length_cons]; omega
theorem srt_len (l : List GRaw) : (srt l).length = l.length := by rw [srt, srtA_len, List.length_nil, Nat.zero_add]
theorem srtA_mem {x : GRaw} : ∀ {l S : List GRaw}, x ∈ srtA l S ↔ x ∈ S ∨ x ∈ l
 | [], S => by simp [srtA]
 | r :: l, S => by
  rw [srtA, srtA_mem, insR_mem, List.mem_cons]
  constructor
  · rintro ((h | h) | h)
    · exact Or.inr (Or.inl h)
    · exact Or.inl h
    · exact Or.inr (Or.inr h)
  · rintro (h | h | h)
    · exact Or.inl (Or.inr h)
    · exact Or.inl (Or.inl h)
    · exact Or.inr h
theorem srt_mem {x : GRaw} {l : List GRaw} : x ∈ srt l ↔ x ∈ l := by rw [srt, srtA_mem]; simp
theorem srtA_filter (t : Int) : ∀ {l S : List GRaw}, S.Pairwise TagLe → (srtA l S).filter (fun x => x.fTag = t) = S.filter (fun x => x.fTag = t) ++ l.filter (fun x => x.fTag = t)
 | [], S, _ => by rw [srtA, List.filter_nil, List.append_nil]
 | r :: l, S, h => by
  rw [srtA, srtA_filter t (insR_sorted h), insR_filter t h, List.filter_cons, List.append_assoc]
  congr 1
  simp only [decide_eq_true_eq]
  split <;> rfl
theorem srt_filter (l : List GRaw) (t : Int) : (srt l).filter (fun x => x.fTag = t) = l.filter (fun x => x.fTag = t) := by
 rw [srt, srtA_filter t List.Pairwise.nil]; rfl
theorem srtA_id : ∀ {l S : List GRaw}, (S ++ l).Pairwise TagLe → srtA l S = S ++ l
 | [], S, _ => by rw [srtA, List.append_nil]
 | r :: l, S, h => by
  have hS : ∀ a ∈ S, a.fTag ≤ r.fTag := fun a ha => (List.pairwise_append.1 h).2.2 a ha r (List.mem_cons_self ..)
  have e : insR r S = S ++ [r] := by
   have := insR_app (r := r) (A := S) (B := []) hS (fun b hb => by cases hb)
   rwa [List.append_nil] at this
  rw [srtA, e, srtA_id (by rwa [List.append_assoc]), List.append_assoc]; rfl
theorem srt_id {l : List GRaw} (h : l.Pairwise TagLe) : srt l = l := srtA_id (S := []) h
theorem srt_srt (l : List GRaw) : srt (srt l) = srt l := srt_id (srt_sorted l)
theorem sorted_ext : ∀ {l m : List GRaw}, l.Pairwise TagLe → m.Pairwise TagLe → (∀ t : Int, l.filter (fun x => x.fTag = t) = m.filter (fun x => x.fTag = t)) → l = m
 | [], [], _, _, _ => rfl
 | [], y :: m, _, _, h => by
  have := h y.fTag
  rw [List.filter_nil, List.filter_cons, if_pos (by simp)] at this; cases this
 | x :: l, [], _, _, h => by
  have := h x.fTag
  rw [List.filter_nil, List.filter_cons, if_pos (by simp)] at this; cases this
 | x :: l, y :: m, hl, hm, h => by
  rw [List.pairwise_cons] at hl hm
  have hxy : x.fTag = y.fTag := by
   have h1 : x ∈ (y :: m).filter (fun z => z.fTag = x.fTag) := by rw [← h, List.filter_cons, if_pos (by simp)]; exact List.mem_cons_self ..
   have h2 : y ∈ (x :: l).filter (fun z => z.fTag = y.fTag) := by rw [h, List.filter_cons, if_pos (by simp)]; exact List.mem_cons_self ..
   have a1 : y.fTag ≤ x.fTag := by
    rcases List.mem_cons.1 (List.mem_filter.1 h1).1 with e | h1
    · rw [e]; exact Int.le_refl _
    · exact hm.1 x h1
   have a2 : x.fTag ≤ y.fTag := by
    rcases List.mem_cons.1 (List.mem_filter.1 h2).1 with e | h2
    · rw [e]; exact Int.le_refl _
    · exact hl.1 y h2
   omega
  have e : x = y := by
   have := h x.fTag
   rw [List.filter_cons, List.filter_cons, if_pos (by simp), if_pos (by simp [hxy])] at this
   injection this
  subst e
  congr 1
  refine sorted_ext hl.2 hm.2 fun t => ?_
  have := h t
  rw [List.filter_cons, List.filter_cons] at this
  split at this
  · injection this
  · exact this
theorem srt_of {l m : List GRaw} (hm : m.Pairwise TagLe) (h : ∀ t : Int, l.filter (fun x => x.fTag = t) = m.filter (fun x => x.fTag = t)) : srt l = m :=
 sorted_ext (srt_sorted l) hm fun t => by rw [srt_filter, h]
theorem idx_app {α : Type} {A B : List α} {x : α} {i : Int} (h : i = A.length) : idxL (A ++ x :: B) i = some x := by
 subst h
 rw [idxL, if_pos (by omega), Int.toNat_natCast, List.getElem?_append_right (Nat.le_refl _), Nat.sub_self]; rfl
theorem idx_t {α : Type} {l : List α} {i : Int} {x : α} (h0 : 0 ≤ i) (h : l[i.toNat]? = some x) : idxL l i = some x := by rw [idxL, if_pos h0, h]
theorem sorted_l17 {r z : GRaw} {S P : List GRaw} (rec8 : Int → List GRaw → Option (List GRaw)) : ∀ (k : Nat) (A B : List GRaw), S = A ++ B → (∀ b ∈ B, r.fTag < b.fTag) → A.Pairwise TagLe → A.length < k → S.length < 1000000 →
 wire_Sorted.l17 (S.length : Int) (S ++ z :: P) rec8 r k (A.length : Int) = rec8 ((S.length : Int) + 1) (insR r S ++ P)
 | 0, _, _, _, _, _, h, _ => by omega
 | k + 1, A, B, hS, hB, hA, hk, hn => by
  have stop : (∀ a ∈ A, a.fTag ≤ r.fTag) → wire_Sorted.j20 (S.length : Int) (S ++ z :: P) rec8 r (A.length : Int) (wire_Sorted.l17 (S.length : Int) (S ++ z :: P) rec8 r k) false = rec8 ((S.length : Int) + 1) (insR r S ++ P) := by
   intro hle
   have hl : S.length = A.length + B.length := by rw [hS, List.length_append]
   have e1 : IntKind.i64.wrap ((A.length : Int) + 1) = ((A.length + 1 : Nat) : Int) := by rw [i64_in (by omega) (by omega)]; omega
   rw [wire_Sorted.j20, if_neg (by decide), e1, grd_t (by rw [List.length_append, List.length_cons]; omega), Option.bind_some, grd_t (by rw [List.length_append, List.length_cons]; omega), Option.bind_some]
   have e2 : Int.toNat ((S.length : Int) + 1) = S.length + 1 := by omega
   rw [Int.toNat_natCast, Int.toNat_natCast, Int.toNat_natCast, e2, show min (S.length - A.length) (S.length + 1 - (A.length + 1)) = B.length by omega]
   have hc : ∃ w : GRaw, A.length < (S ++ z :: P).length ∧ copyI (S ++ z :: P) (A.length + 1) A.length B.length = A ++ w :: (B ++ P) := by
    cases hB' : B with
    | nil =>
     subst hB'
     rw [List.append_nil] at hS
     refine ⟨z, by rw [hS, List.length_append, List.length_cons]; omega, ?_⟩
     rw [copyI, hS, List.length_nil, List.take_zero, List.nil_append, Nat.add_zero, List.drop_append, List.drop_eq_nil_of_le (by omega), List.take_append, List.take_of_length_le (by omega)]
     rw [show A.length + 1 - A.length = 1 by omega]
     simp
    | cons b B' =>
     refine ⟨b, by rw [hS, hB', List.length_append, List.length_append, List.length_cons]; omega, ?_⟩
     rw [hS, hB', copyI]
     have t1 : ((A ++ b :: B') ++ z :: P).take (A.length + 1) = A ++ [b] := by
      rw [List.append_assoc, List.take_append, List.take_of_length_le (by omega), show A.length + 1 - A.length = 1 by omega]; rfl
     have t2 : (((A ++ b :: B') ++ z :: P).drop A.length).take (b :: B').length = b :: B' := by
      rw [List.append_assoc, List.drop_left' rfl, List.take_left' rfl]
     have t3 : ((A ++ b :: B') ++ z :: P).drop (A.length + 1 + (b :: B').length) = P := by
      rw [show (A ++ b :: B') ++ z :: P = ((A ++ b :: B') ++ [z]) ++ P by rw [List.append_assoc (A ++ b :: B')]; rfl]
      rw [List.drop_left']
      simp only [List.length_append, List.length_cons, List.length_nil]; omega
     rw [t1, t2, t3]
     simp only [List.append_assoc, List.cons_append, List.nil_append]
   obtain ⟨w, hlt, hc⟩ := hc
   rw [hc, idx_app rfl, Option.bind_some, setI, Int.toNat_natCast, List.set_append_right _ _ (Nat.le_refl _), Nat.sub_self, List.set_cons_zero, hS, insR_app hle hB, List.append_assoc]; rfl
  rcases List.eq_nil_or_concat A with rfl | ⟨A', a, rfl⟩
  · rw [wire_Sorted.l17, if_neg (by simp)]
    exact stop (fun a ha => by cases ha)
  · rw [List.concat_eq_append] at *
    have hlA : (A' ++ [a]).length = A'.length + 1 := by rw [List.length_append, List.length_singleton]
    have hlS : S.length = (A' ++ [a]).length + B.length := by rw [hS, List.length_append]
    have e1 : IntKind.i64.wrap (((A' ++ [a]).length : Int) - 1) = (A'.length : Int) := by
     rw [i64_in (by omega) (by omega)]; omega
    rw [wire_Sorted.l17, if_pos (by omega), e1]
    have ei : idxL (S ++ z :: P) (A'.length : Int) = some a := by
     rw [hS, List.append_assoc, List.append_assoc]; exact idx_app rfl
    rw [ei, Option.bind_some]
    by_cases hgt : r.fTag < a.fTag
    · rw [decide_eq_true hgt, wire_Sorted.j20, if_pos rfl, e1]
      refine sorted_l17 rec8 k A' (a :: B) (by rw [hS, List.append_assoc]; rfl) ?_ (List.pairwise_append.1 hA).1 (by omega) hn
      intro b hb
      rcases List.mem_cons.1 hb with rfl | hb
      · exact hgt
      · exact hB b hb
    · rw [decide_eq_false hgt]
      refine stop ?_
      intro x hx
      rcases List.mem_append.1 hx with hx | hx
      · have := (List.pairwise_append.1 hA).2.2 x hx a (List.mem_singleton.2 rfl)
        unfold TagLe at this; omega
      · rw [List.mem_singleton] at hx; subst hx; omega
theorem sorted_l8 : ∀ (q S P : List GRaw), P.length = q.length → S.Pairwise TagLe → S.length + q.length < 1000000 → wire_Sorted.l8 q (S.length : Int) (S ++ P) = some (srtA q S)
 | [], S, P, hP, _, _ => by
  have : P = [] := List.length_eq_zero_iff.1 (by simpa using hP)
  subst this
  rw [wire_Sorted.l8, srtA, List.append_nil]
 | r :: q, S, [], hP, _, _ => by cases hP
 | r :: q, S, z :: P, hP, hS, hn => by
  rw [List.length_cons] at hn
  rw [wire_Sorted.l8, sorted_l17 (S := S) (wire_Sorted.l8 q) rounds S [] (List.append_nil S).symm (fun b hb => by cases hb) hS (Nat.lt_of_lt_of_le (show S.length < 1000000 by omega) (by decide)) (by omega)]
  have e : (S.length : Int) + 1 = ((insR r S).length : Int) := by rw [insR_len]; omega
  rw [e, sorted_l8 q (insR r S) P (by simpa using hP) (insR_sorted hS) (by rw [insR_len]; omega), srtA]
theorem sorted_eq {l : List GRaw} (h : l.length < 1000000) : wire_Sorted l = some (srt l) := by
 rw [wire_Sorted, grd_t (by omega), Option.bind_some, Int.toNat_natCast]
 exact sorted_l8 l [] _ List.length_replicate List.Pairwise.nil (by rw [List.length_nil]; omega)
end Go.Proofs.YtaddlmlpeghonaaDoor
