import Derived.Test.YtaddlmlpeghonaaDoorUSc
set_option maxRecDepth 4000
set_option linter.unusedSimpArgs false
set_option linter.unusedVariables false
namespace Go.Proofs.YtaddlmlpeghonaaDoor
open AM
theorem decU_pos (s : List UInt8) (p : Nat) : 1 ≤ (decU s p).2 := by
 unfold decU Utf8.decode
 dsimp only
 repeat' split
 all_goals first | exact Nat.le_refl 1 | exact (by decide : 1 ≤ 2) | exact (by decide : 1 ≤ 3) | exact (by decide : 1 ≤ 4)
theorem runesNext_t (a : List UInt8) (n : Nat) (h : a.length ≤ 9223372036854775807) : ∃ r, runes_Next a (n : Int) = some r := by
 unfold runes_Next
 split
 · exact ⟨_, rfl⟩
 · rename_i h1
   simp only [Bool.or_eq_true, decide_eq_true_eq, not_or] at h1
   rw [grd_t (by omega), Option.bind_some, bnd]
   split <;> exact ⟨_, rfl⟩
theorem runesValid_l (a : List UInt8) (h : a.length ≤ 9223372036854775807) : ∀ (k p : Nat), 0 < k → a.length < p + k → ∃ v, runes_Valid.l4 a k p = some v
 | 0, p, h0, hk => by omega
 | k + 1, p, _, hk => by
  have hd := decU_pos a p
  rw [runes_Valid.l4]
  split
  · have ih := runesValid_l a h k (p + (decU a p).2) (by omega) (by omega)
    split
    · obtain ⟨r, e⟩ := runesNext_t a p h
      rw [e, Option.bind_some]
      split
      · exact ⟨_, rfl⟩
      · exact ih
    · exact ih
  · exact ⟨_, rfl⟩
theorem rounds_big : 9223372036854775808 ≤ rounds := by decide
def runesV (b : List UInt8) : Bool := (runes_Valid b).getD false
theorem runesV_eq {a : List UInt8} (h : a.length ≤ 9223372036854775807) : runes_Valid a = some (runesV a) := by
 obtain ⟨v, e⟩ := runesValid_l a h rounds 0 (by have := rounds_big; omega) (by have := rounds_big; omega)
 unfold runesV
 rw [show runes_Valid a = some v from e]; rfl
theorem ge_tag (t : Int) (l : List GTree) : (GEntry.mk t l).fTag = t := rfl
theorem ge_trees (t : Int) (l : List GTree) : (GEntry.mk t l).fTrees = l := rfl
def TagLt (a b : GEntry) : Prop := a.fTag < b.fTag
def putE (t : Int) (rep : Prop) [Decidable rep] (x : GTree) : List GEntry → List GEntry
 | [] => [⟨t, [x]⟩]
 | e :: l => if e.fTag < t then e :: putE t rep x l else if e.fTag = t then ⟨t, (if rep then e.fTrees else []) ++ [x]⟩ :: l else ⟨t, [x]⟩ :: e :: l
def putN (t : Int) (rep : Prop) [Decidable rep] : List GEntry → Nat
 | [] => 1
 | e :: l => if e.fTag < t then putN t rep l else if e.fTag = t then (if rep then e.fTrees.length else 0) + 1 else 1
theorem putE_app {t : Int} {rep : Prop} [Decidable rep] {x : GTree} {B : List GEntry} : ∀ {A : List GEntry}, (∀ a ∈ A, a.fTag < t) → putE t rep x (A ++ B) = A ++ putE t rep x B
 | [], _ => rfl
 | a :: A, h => by
  rw [List.cons_append, putE, if_pos (h a (List.mem_cons_self ..)), putE_app fun b hb => h b (List.mem_cons_of_mem _ hb)]; rfl
theorem putN_app {t : Int} {rep : Prop} [Decidable rep] {B : List GEntry} : ∀ {A : List GEntry}, (∀ a ∈ A, a.fTag < t) → putN t rep (A ++ B) = putN t rep B
 | [], _ => rfl
 | a :: A, h => by
  rw [List.cons_append, putN, if_pos (h a (List.mem_cons_self ..)), putN_app fun b hb => h b (List.mem_cons_of_mem _ hb)]
theorem splitE (t : Int) : ∀ {es : List GEntry}, es.Pairwise TagLt → ∃ A B, es = A ++ B ∧ (∀ a ∈ A, a.fTag < t) ∧ (∀ b ∈ B, t ≤ b.fTag)
 | [], _ => ⟨[], [], rfl, (fun _ h => by cases h), (fun _ h => by cases h)⟩
 | e :: es, h => by
  rw [List.pairwise_cons] at h
  by_cases he : e.fTag < t
  · obtain ⟨A, B, rfl, hA, hB⟩ := splitE t h.2
    refine ⟨e :: A, B, rfl, ?_, hB⟩
    intro a ha
    rcases List.mem_cons.1 ha with rfl | ha
    · exact he
    · exact hA a ha
  · refine ⟨[], e :: es, rfl, (fun _ h => by cases h), ?_⟩
    intro b hb
    rcases List.mem_cons.1 hb with rfl | hb
    · omega
    · have := h.1 b hb; unfold TagLt at this; omega
theorem put1_eq {e : GEntry} {t : Int} (h1 : 1 ≤ e.fTag ∧ e.fTag ≤ 500) (h2 : 1 ≤ t ∧ t ≤ 500) : decode_put_1 e t = e.fTag - t := by
 unfold decode_put_1; exact i64_in (by omega) (by omega)
theorem half {x y : Nat} (h : x + y < 9223372036854775808) : IntKind.i64.wrap (Int.fdiv (IntKind.u64.wrap (IntKind.i64.wrap ((x : Int) + (y : Int)))) (2 ^ (min (Int.toNat 1) 64))) = (((x + y) / 2 : Nat) : Int) := by
 rw [i64_in (x := (x : Int) + y) (by omega) (by omega), u64i (by omega) (by omega), show min (Int.toNat 1) 64 = 1 from rfl, Int.fdiv_eq_ediv_of_nonneg _ (by decide), i64_in (by omega) (by omega)]
 omega
def headIs (t : Int) : List GEntry → Bool
 | [] => false
 | b :: _ => decide (b.fTag = t)
theorem bs_l {t : Int} {A B : List GEntry} (ht : 1 ≤ t ∧ t ≤ 500) (hA : ∀ a ∈ A, a.fTag < t) (hB : ∀ b ∈ B, t ≤ b.fTag) (hr : ∀ e ∈ A ++ B, 1 ≤ e.fTag ∧ e.fTag ≤ 500) (hn : (A ++ B).length < 4611686018427387904) :
 ∀ (k x y : Nat), x ≤ A.length → A.length ≤ y → y ≤ (A ++ B).length → y < x + k → slices_BinarySearchFunc_Entry_decode_put_1.l6 (A ++ B) t k (x : Int) (y : Int) = some ((A.length : Int), headIs t B)
 | 0, x, y, _, _, _, hk => by omega
 | k + 1, x, y, hx, hy, hl, hk => by
  rw [slices_BinarySearchFunc_Entry_decode_put_1.l6]
  by_cases hlt : x < y
  · rw [if_pos (by omega), half (by omega)]
    have hm : (x + y) / 2 < (A ++ B).length := by omega
    rw [idx_t (by omega) (show (A ++ B)[Int.toNat (((x + y) / 2 : Nat) : Int)]? = some ((A ++ B)[(x + y) / 2]'hm) by rw [Int.toNat_natCast]; exact List.getElem?_eq_getElem hm), Option.bind_some, bnd, put1_eq (hr _ (List.getElem_mem hm)) ht]
    by_cases hc : (x + y) / 2 < A.length
    · have e : (A ++ B)[(x + y) / 2]'hm = A[(x + y) / 2]'hc := List.getElem_append_left hc
      have := hA _ (List.getElem_mem hc)
      rw [e, if_pos (by omega), i64_in (by omega) (by omega), show (((x + y) / 2 : Nat) : Int) + 1 = (((x + y) / 2 + 1 : Nat) : Int) by omega]
      exact bs_l ht hA hB hr hn k _ y (by omega) hy hl (by omega)
    · have hlB : (x + y) / 2 - A.length < B.length := by rw [List.length_append] at hm; omega
      have e : (A ++ B)[(x + y) / 2]'hm = B[(x + y) / 2 - A.length]'hlB := List.getElem_append_right (by omega)
      have := hB _ (List.getElem_mem hlB)
      rw [e, if_neg (by omega)]
      exact bs_l ht hA hB hr hn k x _ hx (by omega) (by omega) (by omega)
  · have e : x = A.length := by omega
    subst e
    rw [if_neg (by omega)]
    cases B with
    | nil => rw [List.append_nil, if_neg (by omega)]; rfl
    | cons b B =>
     rw [if_pos (by rw [List.length_append, List.length_cons]; omega), idx_app rfl, Option.bind_some, bnd, put1_eq (hr b (List.mem_append_right _ (List.mem_cons_self ..))) ht, Option.bind_some, headIs]
     congr 2
     exact decide_eq_decide.2 (by omega)
theorem decode_put_eq {es : List GEntry} {f : GField} {x : GTree} (hs : es.Pairwise TagLt) (hr : ∀ e ∈ es, 1 ≤ e.fTag ∧ e.fTag ≤ 500) (hf : 1 ≤ f.fTag ∧ f.fTag ≤ 500) (hn : es.length < 1000000) (ht : ∀ e ∈ es, e.fTrees.length < 1000000) :
 decode_put es f x = some (putE f.fTag (f.fLabel = 3) x es, decide (putN f.fTag (f.fLabel = 3) es ≤ 64)) := by
 obtain ⟨A, B, rfl, hA, hB⟩ := splitE f.fTag hs
 have hln : (A ++ B).length = A.length + B.length := List.length_append
 have bs : slices_BinarySearchFunc_Entry_decode_put_1 (A ++ B) f.fTag = some ((A.length : Int), headIs f.fTag B) := bs_l hf hA hB hr (by omega) rounds 0 (A ++ B).length (Nat.zero_le _) (by omega) (Nat.le_refl _) (by have := rounds_big; omega)
 rw [decode_put, bs, Option.bind_some, putE_app hA, putN_app hA]
 have ins : ∀ (B : List GEntry), (A ++ B).length < 1000000 → headIs f.fTag B = false → (∀ b ∈ B, f.fTag ≤ b.fTag) → ((if ((A.length : Int), headIs f.fTag B).2 = true then some (A ++ B) else (grd (0 ≤ ((A.length : Int), headIs f.fTag B).1 ∧ ((A.length : Int), headIs f.fTag B).1 ≤ ((A ++ B).length : Int))).bind fun _ => (room ((A ++ B).length + 1) 32).bind fun _ => some ((A ++ B).take ((A.length : Int), headIs f.fTag B).1.toNat ++ ⟨f.fTag, []⟩ :: (A ++ B).drop ((A.length : Int), headIs f.fTag B).1.toNat)).bind fun es1 =>
  (idxL es1 ((A.length : Int), headIs f.fTag B).1).bind fun e =>
  (room ((if f.fLabel = 3 then e.fTrees.length else 0) + 1) 80).bind fun _ =>
  some (es1.set ((A.length : Int), headIs f.fTag B).1.toNat ⟨e.fTag, (if f.fLabel = 3 then e.fTrees else []) ++ [x]⟩, decide ((((if f.fLabel = 3 then e.fTrees else []) ++ [x]).length : Int) ≤ 64))) = some (A ++ ⟨f.fTag, [x]⟩ :: B, true) := by
  intro B hln hh _
  have hl2 : (A ++ B).length = A.length + B.length := List.length_append
  rw [hh]
  simp only [Int.toNat_natCast]
  rw [if_neg (by decide), grd_t (by omega), Option.bind_some, room_t (by omega), Option.bind_some, Option.bind_some, List.take_left' rfl, List.drop_left' rfl, idx_app rfl, Option.bind_some, room_t (by rw [ge_trees]; split <;> decide), Option.bind_some, List.set_append_right _ _ (Nat.le_refl _), Nat.sub_self, List.set_cons_zero]
  simp only [ge_tag, ge_trees, ite_self, List.nil_append, List.length_singleton]; rfl
 cases B with
 | nil =>
  rw [ins [] hn rfl (fun _ h => by cases h)]; rfl
 | cons b B =>
  have hb := hB b (List.mem_cons_self ..)
  by_cases hbt : b.fTag = f.fTag
  · have hh : headIs f.fTag (b :: B) = true := decide_eq_true hbt
    have htb := ht b (List.mem_append_right _ (List.mem_cons_self ..))
    rw [hh]
    simp only [Int.toNat_natCast]
    rw [if_pos trivial, Option.bind_some, idx_app rfl, Option.bind_some, room_t (by split <;> omega), Option.bind_some, List.set_append_right _ _ (Nat.le_refl _), Nat.sub_self, List.set_cons_zero, putE, if_neg (show ¬ b.fTag < f.fTag by omega), if_pos hbt, putN, if_neg (show ¬ b.fTag < f.fTag by omega), if_pos hbt, hbt]
    congr 2
    refine decide_eq_decide.2 ?_
    rw [List.length_append, List.length_singleton]
    by_cases h3 : f.fLabel = 3
    · rw [if_pos h3, if_pos h3]; omega
    · rw [if_neg h3, if_neg h3, List.length_nil]; omega
  · have hh : headIs f.fTag (b :: B) = false := decide_eq_false hbt
    rw [ins (b :: B) hn hh hB, putE, if_neg (by omega), if_neg hbt, putN, if_neg (by omega), if_neg hbt]; rfl
theorem putE_mem {t : Int} {rep : Prop} [Decidable rep] {x : GTree} {e : GEntry} : ∀ {es : List GEntry}, e ∈ putE t rep x es → e ∈ es ∨ e.fTag = t
 | [], h => by rw [putE, List.mem_singleton] at h; subst h; exact Or.inr rfl
 | a :: es, h => by
  rw [putE] at h; split at h
  · rcases List.mem_cons.1 h with rfl | h
    · exact Or.inl (List.mem_cons_self ..)
    · rcases putE_mem h with h | h
      · exact Or.inl (List.mem_cons_of_mem _ h)
      · exact Or.inr h
  · split at h
    · rcases List.mem_cons.1 h with rfl | h
      · exact Or.inr rfl
      · exact Or.inl (List.mem_cons_of_mem _ h)
    · rcases List.mem_cons.1 h with rfl | h
      · exact Or.inr rfl
      · exact Or.inl h
theorem putE_sorted {t : Int} {rep : Prop} [Decidable rep] {x : GTree} : ∀ {es : List GEntry}, es.Pairwise TagLt → (putE t rep x es).Pairwise TagLt
 | [], _ => by simp [putE]
 | a :: es, h => by
  rw [List.pairwise_cons] at h
  rw [putE]; split
  · rename_i hlt
    rw [List.pairwise_cons]
    refine ⟨?_, putE_sorted h.2⟩
    intro b hb
    rcases putE_mem hb with hb | hb
    · exact h.1 b hb
    · unfold TagLt; omega
  · split
    · rename_i hge heq
      rw [List.pairwise_cons]
      refine ⟨?_, h.2⟩
      intro b hb
      have := h.1 b hb; unfold TagLt at *; simp only [ge_tag]; omega
    · rename_i hge hne
      rw [List.pairwise_cons, List.pairwise_cons]
      refine ⟨?_, h⟩
      intro b hb
      rcases List.mem_cons.1 hb with rfl | hb
      · unfold TagLt; simp only [ge_tag]; omega
      · have := h.1 b hb; unfold TagLt at *; simp only [ge_tag]; omega
theorem putE_len {t : Int} {rep : Prop} [Decidable rep] {x : GTree} : ∀ {es : List GEntry}, (putE t rep x es).length ≤ es.length + 1
 | [] => by rw [putE]; exact Nat.le_refl _
 | a :: es => by
  rw [putE]; split
  · rw [List.length_cons, List.length_cons]; have := putE_len (t := t) (rep := rep) (x := x) (es := es); omega
  · split <;> simp only [List.length_cons] <;> omega
theorem putE_all {t : Int} {rep : Prop} [Decidable rep] {x : GTree} {e : GEntry} : ∀ {es : List GEntry}, e ∈ putE t rep x es → e ∈ es ∨ (e.fTag = t ∧ e.fTrees.length = putN t rep es ∧ e.fTrees ≠ [])
 | [], h => by rw [putE, List.mem_singleton] at h; subst h; exact Or.inr ⟨rfl, rfl, by rw [ge_trees]; simp⟩
 | a :: es, h => by
  rw [putE] at h; rw [putN]; split at h
  · rename_i hlt
    rw [if_pos hlt]
    rcases List.mem_cons.1 h with rfl | h
    · exact Or.inl (List.mem_cons_self ..)
    · rcases putE_all h with h | h
      · exact Or.inl (List.mem_cons_of_mem _ h)
      · exact Or.inr h
  · rename_i hlt
    rw [if_neg hlt]
    split at h
    · rename_i heq
      rw [if_pos heq]
      rcases List.mem_cons.1 h with rfl | h
      · refine Or.inr ⟨rfl, ?_, by rw [ge_trees]; simp⟩
        simp only [ge_trees, List.length_append, List.length_singleton]; split <;> rfl
      · exact Or.inl (List.mem_cons_of_mem _ h)
    · rename_i hne
      rw [if_neg hne]
      rcases List.mem_cons.1 h with rfl | h
      · exact Or.inr ⟨rfl, rfl, by rw [ge_trees]; simp⟩
      · exact Or.inl h
def zTree : GTree := ⟨0, 0, [], [], []⟩
def isZ (m : GMessage) (e : GEntry) : Bool := decide ((check_Field m e.fTag).1.fLabel = 1) && valid_Zero (e.fTrees.headD zTree)
def zdel (m : GMessage) (es : List GEntry) : List GEntry := es.filter fun e => !isZ m e
theorem decode_del_eq {m : GMessage} : ∀ {es : List GEntry}, (∀ e ∈ es, e.fTrees ≠ []) → decode_del m es = some (zdel m es)
 | [], _ => rfl
 | e :: es, h => by
  have he := h e (List.mem_cons_self ..)
  rw [decode_del, decode_message_1, bnd]
  have e1 : (if (check_Field m e.fTag).1.fLabel = 1 then (idxL e.fTrees 0).bind fun y2 => bnd (valid_Zero y2) fun r5 => some r5 else some false) = some (isZ m e) := by
   unfold isZ
   split
   · rename_i hl
     cases ht : e.fTrees with
     | nil => exact absurd ht he
     | cons a l =>
      rw [idx_t (Int.le_refl 0) (show (a :: l)[Int.toNat 0]? = some a from rfl), Option.bind_some, bnd, hl]; rfl
   · rename_i hl
     rw [decide_eq_false hl, Bool.false_and]
  rw [e1, Option.bind_some, Option.bind_some, decode_del_eq fun a ha => h a (List.mem_cons_of_mem _ ha), Option.bind_some]
  unfold zdel; rw [List.filter_cons]
  cases isZ m e <;> rfl
def fldD (m : GMessage) (one : GType → GRaw → GTree × Int) : List GRaw → List GEntry → List GRaw → GTree × Int
 | [], es, rest => (⟨3, 0, [], zdel m es, srt rest⟩, 0)
 | r :: q, es, rest =>
  if (check_Field m r.fTag).2 = true then
   (if (one (check_Field m r.fTag).1.fType r).2 = 0 then
    (if putN r.fTag ((check_Field m r.fTag).1.fLabel = 3) es ≤ 64 then fldD m one q (putE r.fTag ((check_Field m r.fTag).1.fLabel = 3) (one (check_Field m r.fTag).1.fType r).1 es) rest else (zTree, 4))
   else (zTree, (one (check_Field m r.fTag).1.fType r).2))
  else fldD m one q es (rest ++ [r])
theorem checkField_tag {m : GMessage} {t : Int} (h : (check_Field m t).2 = true) : (check_Field m t).1.fTag = t ∧ (check_Field m t).1 ∈ m.fFields := by
 have key : ∀ (l : List GField) (i : Int), (check_Field.l4 t l i).2 = true → (check_Field.l4 t l i).1.fTag = t ∧ (check_Field.l4 t l i).1 ∈ l := by
  intro l
  induction l with
  | nil => intro i h; cases h
  | cons f l ih =>
   intro i h
   rw [check_Field.l4] at h ⊢
   split at h
   · rename_i hf
     rw [if_pos hf]; exact ⟨hf, List.mem_cons_self ..⟩
   · rename_i hf
     rw [if_neg hf]
     obtain ⟨h1, h2⟩ := ih _ h
     exact ⟨h1, List.mem_cons_of_mem _ h2⟩
 exact key m.fFields 0 h
theorem fldD_eq {self : GSchema → GType → GRaw → Int → Option (GTree × Int)} {s : GSchema} {m : GMessage} {deep : Int} {one : GType → GRaw → GTree × Int} :
 ∀ {l : List GRaw} {es : List GEntry} {rest : List GRaw}, (∀ r ∈ l, 1 ≤ r.fTag ∧ r.fTag ≤ 500) → (∀ r ∈ l, ∀ y, self s y r deep = some (one y r)) → es.Pairwise TagLt → (∀ e ∈ es, (1 ≤ e.fTag ∧ e.fTag ≤ 500) ∧ e.fTrees ≠ [] ∧ e.fTrees.length ≤ 64) → es.length + l.length < 100000 → rest.length + l.length < 100000 →
 decode_message.l self s m deep l es rest = some (fldD m one l es rest)
 | [], es, rest, _, _, _, he, hn, hn' => by
  rw [decode_message.l, room_t (by simp only [List.length_nil] at hn; omega), Option.bind_some, decode_del_eq fun e h => (he e h).2.1, Option.bind_some, sorted_eq (by simp only [List.length_nil] at hn'; omega), Option.bind_some, fldD]
 | r :: l, es, rest, ht, ho, hs, he, hn, hn' => by
  rw [List.length_cons] at hn hn'
  have hr := ht r (List.mem_cons_self ..)
  have ht' : ∀ r ∈ l, 1 ≤ r.fTag ∧ r.fTag ≤ 500 := fun x hx => ht x (List.mem_cons_of_mem _ hx)
  have ho' : ∀ r ∈ l, ∀ y, self s y r deep = some (one y r) := fun x hx => ho x (List.mem_cons_of_mem _ hx)
  rw [decode_message.l, bnd, fldD]
  by_cases hf : (check_Field m r.fTag).2 = true
  · obtain ⟨hft, _⟩ := checkField_tag hf
    rw [if_pos hf, if_pos hf, ho r (List.mem_cons_self ..), Option.bind_some]
    by_cases h0 : (one (check_Field m r.fTag).1.fType r).2 = 0
    · rw [if_pos h0, if_pos h0, decode_put_eq hs (fun e h => (he e h).1) (by rw [hft]; exact hr) (by omega) (fun e h => by have := (he e h).2.2; omega), Option.bind_some, hft]
      by_cases hp : putN r.fTag ((check_Field m r.fTag).1.fLabel = 3) es ≤ 64
      · rw [if_pos hp, if_pos (decide_eq_true hp)]
        refine fldD_eq (es := putE r.fTag ((check_Field m r.fTag).1.fLabel = 3) (one (check_Field m r.fTag).1.fType r).1 es) ht' ho' (putE_sorted hs) ?_ (by have := putE_len (t := r.fTag) (rep := (check_Field m r.fTag).1.fLabel = 3) (x := (one (check_Field m r.fTag).1.fType r).1) (es := es); omega) (by omega)
        intro e h
        rcases putE_all h with h | ⟨h1, h2, h3⟩
        · exact he e h
        · exact ⟨by rw [h1]; exact hr, h3, by omega⟩
      · rw [if_neg hp, if_neg (by simpa using hp)]; rfl
    · rw [if_neg h0, if_neg h0]; rfl
  · rw [if_neg hf, if_neg hf, room_t (by omega), Option.bind_some]
    exact fldD_eq ht' ho' hs he (by omega) (by rw [List.length_append, List.length_singleton]; omega)
def msgOf (s : GSchema) (n : List UInt8) : GMessage := (check_Message s n).1
def oneD (msg : GMessage → List UInt8 → GTree × Int) (s : GSchema) (y : GType) (r : GRaw) : GTree × Int :=
 if (if y.fKind = 4 ∨ y.fKind = 5 ∨ y.fKind = 7 then r.fWire = 1 else r.fWire = 0) then
  (if y.fKind = 3 ∨ y.fKind = 6 then (if valid_Number y r.fN = true then (⟨1, r.fN, [], [], []⟩, 0) else (zTree, 11))
  else if y.fKind = 4 then (if runesV r.fB = true then (⟨2, 0, r.fB, [], []⟩, 0) else (zTree, 9))
  else if y.fKind = 7 then msg (msgOf s y.fName) r.fB
  else (if r.fWire = 1 then ⟨2, 0, r.fB, [], []⟩ else ⟨1, r.fN, [], [], []⟩, 0))
 else (zTree, 8)
theorem oneD_eq {self : GSchema → GMessage → List UInt8 → Int → Option (GTree × Int)} {self2 : GSchema → GType → GRaw → Int → Option (GTree × Int)} {s : GSchema} {y : GType} {r : GRaw} {deep : Int} {msg : GMessage → List UInt8 → GTree × Int} (hw : r.fWire = 0 ∨ r.fWire = 1) (hb : r.fB.length ≤ 4096) (hd : deep < 1000) (hd' : 0 ≤ deep) (hs : self s (msgOf s y.fName) r.fB (deep + 1) = some (msg (msgOf s y.fName) r.fB)) :
 decode_one.body self self2 s y r deep = some (oneD msg s y r) := by
 have hv := runesV_eq (a := r.fB) (by omega)
 have ed : IntKind.i64.wrap (deep + 1) = deep + 1 := i64_in (by omega) (by omega)
 have hm : ∀ z : GTree × Int, some (z.1, z.2) = some z := fun z => rfl
 unfold decode_one.body decode_one.j2 decode_one.j26 decode_one.j3 decode_one.j6 decode_one.j4 oneD bnd
 unfold msgOf at hs ⊢
 simp only [grd_t (show r.fB.length ≤ 9223372036854775807 by omega), hv, ed, Option.bind_some, hs]
 rcases hw with hw | hw <;> simp only [hw, reduceIte, Int.reduceEq] <;>
  by_cases k4 : y.fKind = 4 <;> by_cases k5 : y.fKind = 5 <;> by_cases k7 : y.fKind = 7 <;> by_cases k3 : y.fKind = 3 <;> by_cases k6 : y.fKind = 6 <;>
  first
   | (exfalso; omega)
   | (simp only [k4, k5, k7, k3, k6, reduceIte, Int.reduceEq, decide_true, decide_false, or_true, or_false, or_self, Bool.false_eq_true] <;> first | rfl | (cases valid_Number y r.fN <;> rfl) | (cases runesV r.fB <;> rfl))
def getD (b : List UInt8) : List GRaw × Int := (wire_Get b).getD ([], 99)
theorem getD_eq (b : List UInt8) : wire_Get b = some (getD b) := by
 obtain ⟨r, e, _⟩ := wire_Get_inv b
 unfold getD; rw [e]; rfl
theorem getD_ok {b : List UInt8} (h : (getD b).2 = 0) : b = rawsB (getD b).1 ∧ b.length ≤ 4096 ∧ ∀ x ∈ (getD b).1, rawOk x := by
 obtain ⟨r, e, i, _⟩ := wire_Get_inv b
 rw [getD_eq] at e
 obtain rfl := Option.some.inj e
 exact i h
theorem rawsB_len2 : ∀ l : List GRaw, 2 * l.length ≤ (rawsB l).length
 | [] => Nat.zero_le _
 | r :: l => by
  rw [rawsB_cons, List.length_append, List.length_cons]
  have := rawsB_len2 l; have := rawB_pos r; omega
def decM (s : GSchema) : Nat → GMessage → List UInt8 → GTree × Int
 | 0, _, _ => (zTree, 10)
 | d + 1, m, b => if (getD b).2 = 0 then fldD m (oneD (decM s d) s) (getD b).1 [] [] else (zTree, (getD b).2)
theorem decode_message_eq (s : GSchema) : ∀ (d k : Nat) (m : GMessage) (b : List UInt8) (deep : Int), d ≤ 10 → deep = 11 - d → 2 * d + 1 ≤ k → decode_message k s m b deep = some (decM s d m b)
 | d, 0, m, b, deep, _, _, h => by omega
 | 0, k + 1, m, b, deep, _, h, _ => by
  rw [decode_message, decode_message.body, if_pos (by omega)]; rfl
 | d + 1, k + 1, m, b, deep, h10, hd, hk => by
  rw [decode_message, decode_message.body, if_neg (by omega), getD_eq, Option.bind_some, decM]
  by_cases h0 : (getD b).2 = 0
  · rw [if_pos h0, if_pos h0]
    obtain ⟨hb, hl, hok⟩ := getD_ok h0
    have hlen : (getD b).1.length < 100000 := by
     have := rawsB_len2 (getD b).1
     rw [← hb] at this; omega
    refine fldD_eq ?_ ?_ List.Pairwise.nil (fun _ h => by cases h) (by rw [List.length_nil]; omega) (by rw [List.length_nil]; omega)
    · intro r hr
      have := check_cases (hok r hr).1
      exact ⟨this.1, this.2.1⟩
    · intro r hr y
      obtain ⟨k', rfl⟩ : ∃ k', k = k' + 1 := ⟨k - 1, by omega⟩
      rw [decode_one]
      have hc := (check_cases (hok r hr).1).2.2
      have hbl : r.fB.length ≤ 4096 := by
       rcases hc with ⟨_, hc⟩ | ⟨_, _, hc⟩
       · rw [hc]; decide
       · exact hc
      refine oneD_eq (by rcases hc with hc | hc; exact Or.inl hc.1; exact Or.inr hc.1) hbl (by omega) (by omega) ?_
      exact decode_message_eq s d k' _ _ _ (by omega) (by omega) (by omega)
  · rw [if_neg h0, if_neg h0]; rfl
theorem decode_eq {s : GSchema} {name b : List UInt8} (hc : check_Check s = some 0) (hm : (check_Message s name).2 = true) : decode_Decode s name b = some (decM s 10 (msgOf s name) b) := by
 rw [decode_Decode, hc, Option.bind_some, if_pos rfl, bnd, hm, if_neg (by decide), decode_message_eq s 10 rounds _ b 1 (Nat.le_refl _) rfl (by have := rounds_big; omega), Option.bind_some]; rfl
end Go.Proofs.YtaddlmlpeghonaaDoor
