import Derived.Test.YtaddlmlpeghonaaDoorUSe
set_option maxRecDepth 4000
set_option linter.unusedSimpArgs false
set_option linter.unusedVariables false
namespace Go.Proofs.YtaddlmlpeghonaaDoor
open AM
theorem in0 : In64 0 := ⟨by decide, by decide⟩
def rawT (enc : GTree → Option (List UInt8)) (tag : Int) (x : GTree) : Option GRaw :=
 if x.fKind = 1 then some ⟨tag, 0, x.fN, []⟩
 else if x.fKind = 2 then (if 4096 < x.fS.length then none else some ⟨tag, 1, 0, x.fS⟩)
 else (enc x).bind fun b => some ⟨tag, 1, 0, b⟩
def rawL (enc : GTree → Option (List UInt8)) (tag : Int) : List GTree → Option (List GRaw)
 | [] => some []
 | x :: l => (rawT enc tag x).bind fun r => (rawL enc tag l).bind fun m => some (r :: m)
def rawE (enc : GTree → Option (List UInt8)) : List GEntry → Option (List GRaw)
 | [] => some []
 | e :: l => (rawL enc e.fTag e.fTrees).bind fun a => (rawE enc l).bind fun m => some (a ++ m)
def putB (l : List GRaw) : Option (List UInt8) := if 4096 < (rawsB l).length then none else some (rawsB l)
def encT : Nat → GTree → Option (List UInt8)
 | 0, _ => none
 | d + 1, t => (rawE (encT d) t.fEntries).bind fun L => putB (srt (t.fRest ++ L))
def valT : Nat → GTree → GValueValue
 | 0, t => if t.fKind = 1 then .num t.fN else if t.fKind = 2 then .str t.fS else .node [] t.fRest
 | d + 1, t => if t.fKind = 1 then .num t.fN else if t.fKind = 2 then .str t.fS else .node (t.fEntries.map fun e => ⟨e.fTag, e.fTrees.map (valT d)⟩) t.fRest
theorem made_l62 {self : GTree → Option GValueValue} {f : GTree → GValueValue} {t : GTree} {r12 : List GRaw} {y : GEntry} : ∀ (l : List GTree) (i : Int) (acc : List GValueValue), (∀ x ∈ l, self x = some (f x)) → acc.length + l.length ≤ 64 →
 value_made.l62 self t r12 y l i acc = value_made.l20 self t r12 rounds [⟨y.fTag, acc ++ l.map f⟩] 1
 | [], i, acc, _, _ => by
  rw [value_made.l62, List.map_nil, List.append_nil, i64_in (by decide) (by decide)]; rfl
 | x :: l, i, acc, h, hl => by
  rw [List.length_cons] at hl
  rw [value_made.l62, h x (List.mem_cons_self ..), Option.bind_some, room_t (by omega), Option.bind_some, made_l62 l _ _ (fun z hz => h z (List.mem_cons_of_mem _ hz)) (by rw [List.length_append, List.length_singleton]; omega), List.append_assoc]; rfl
theorem made_l35 {self : GTree → Option GValueValue} {f : GTree → GValueValue} {l14 : List GValueEntry} {x16 : Int} {rec20 : List GValueEntry → Int → Option GValueValue} {y : GEntry} (hl14 : l14.length ≤ 1000) : ∀ (l : List GTree) (i : Int) (acc : List GValueValue), (∀ x ∈ l, self x = some (f x)) → acc.length + l.length ≤ 64 →
 value_made.l35 self l14 x16 rec20 y l i acc = rec20 (l14 ++ [⟨y.fTag, acc ++ l.map f⟩]) (IntKind.i64.wrap (x16 + 1))
 | [], i, acc, _, _ => by
  rw [value_made.l35, List.map_nil, List.append_nil, room_t (by omega), Option.bind_some]
 | x :: l, i, acc, h, hl => by
  rw [List.length_cons] at hl
  rw [value_made.l35, h x (List.mem_cons_self ..), Option.bind_some, room_t (by omega), Option.bind_some, made_l35 hl14 l _ _ (fun z hz => h z (List.mem_cons_of_mem _ hz)) (by rw [List.length_append, List.length_singleton]; omega), List.append_assoc]; rfl
def entV (f : GTree → GValueValue) (e : GEntry) : GValueEntry := ⟨e.fTag, e.fTrees.map f⟩
theorem made_l20 {self : GTree → Option GValueValue} {f : GTree → GValueValue} {t : GTree} {r12 : List GRaw} (hn : t.fEntries.length ≤ 1000) (hs : ∀ e ∈ t.fEntries, e.fTrees.length ≤ 64 ∧ ∀ x ∈ e.fTrees, self x = some (f x)) : ∀ (k : Nat) (A B : List GEntry), t.fEntries = A ++ B → B.length < k →
 value_made.l20 self t r12 k (A.map (entV f)) (A.length : Int) = some (.node (t.fEntries.map (entV f)) r12)
 | 0, A, B, _, h => by omega
 | k + 1, A, [], h, _ => by
  rw [List.append_nil] at h
  rw [value_made.l20, if_neg (by rw [h]; omega), h]
 | k + 1, A, e :: B, h, hk => by
  rw [List.length_cons] at hk
  have hl : t.fEntries.length = A.length + (B.length + 1) := by rw [h, List.length_append, List.length_cons]
  have he := hs e (by rw [h]; exact List.mem_append_right _ (List.mem_cons_self ..))
  have ei : idxL t.fEntries (A.length : Int) = some e := by rw [h]; exact idx_app rfl
  rw [value_made.l20, if_pos (by omega), ei, Option.bind_some, made_l35 (f := f) (by rw [List.length_map]; omega) e.fTrees 0 [] he.2 (by rw [List.length_nil]; omega), i64_in (by omega) (by omega)]
  have := made_l20 (self := self) (f := f) (r12 := r12) hn hs k (A ++ [e]) B (by rw [h, List.append_assoc]; rfl) (by omega)
  rw [List.map_append, List.length_append, List.length_singleton] at this
  rw [show (A.length : Int) + 1 = ((A.length + 1 : Nat) : Int) by omega]
  exact this
theorem entB_mem {f : GTree → Bool} : ∀ {l : List GEntry} {last : Int}, entB f last l = true → ∀ e ∈ l, last < e.fTag ∧ e.fTag ≤ 500 ∧ 1 ≤ e.fTrees.length ∧ e.fTrees.length ≤ 64 ∧ (∀ x ∈ e.fTrees, x.fKind = (e.fTrees.headD zTree).fKind ∧ f x = true)
 | [], _, _, e, he => by cases he
 | a :: l, last, h, e, he => by
  rw [entB, Bool.and_eq_true, Bool.and_eq_true, decide_eq_true_eq] at h
  rcases List.mem_cons.1 he with rfl | he
  · refine ⟨h.1.1.1, h.1.1.2.1, h.1.1.2.2.1, h.1.1.2.2.2, fun x hx => ?_⟩
    have := List.all_eq_true.1 h.1.2 x hx
    rw [Bool.and_eq_true, decide_eq_true_eq] at this
    exact this
  · obtain ⟨h1, h2⟩ := entB_mem h.2 e he
    exact ⟨by omega, h2⟩
theorem entB_sorted {f : GTree → Bool} : ∀ {l : List GEntry} {last : Int}, entB f last l = true → l.Pairwise TagLt
 | [], _, _ => List.Pairwise.nil
 | a :: l, last, h => by
  rw [entB, Bool.and_eq_true, Bool.and_eq_true] at h
  rw [List.pairwise_cons]
  exact ⟨fun e he => (entB_mem h.2 e he).1, entB_sorted h.2⟩
theorem sorted_len {n : Nat} : ∀ {l : List GEntry} {lo : Int}, l.Pairwise TagLt → (∀ e ∈ l, lo < e.fTag ∧ e.fTag ≤ lo + n) → l.length ≤ n
 | [], _, _, _ => Nat.zero_le _
 | a :: l, lo, h, hl => by
  rw [List.pairwise_cons] at h
  have ha := hl a (List.mem_cons_self ..)
  cases n with
  | zero => omega
  | succ n =>
   rw [List.length_cons]
   refine Nat.succ_le_succ (sorted_len (n := n) (lo := lo + 1) h.2 fun e he => ?_)
   have h1 := h.1 e he
   have h2 := hl e (List.mem_cons_of_mem _ he)
   unfold TagLt at h1; omega
theorem ents_len {d : Nat} {t : GTree} (h : rightT (d + 1) t = true) (h3 : t.fKind = 3) : t.fEntries.length ≤ 500 ∧ entB (rightT d) 0 t.fEntries = true ∧ restB t = true ∧ t.fN = 0 ∧ t.fS = [] := by
 rw [rightT, if_pos h3] at h
 simp only [Bool.and_eq_true, decide_eq_true_eq] at h
 refine ⟨?_, h.1.2, h.2, h.1.1.1, h.1.1.2⟩
 exact sorted_len (n := 500) (lo := 0) (entB_sorted h.1.2) fun e he => by
  have := entB_mem h.1.2 e he; omega
theorem leaf_kind {t : GTree} (h : leafB t = true) : t.fKind = 1 ∨ t.fKind = 2 := by
 unfold leafB at h
 split at h
 · exact Or.inl ‹_›
 · split at h
   · exact Or.inr ‹_›
   · cases h
theorem right_kind {d : Nat} {t : GTree} (h : rightT d t = true) : t.fKind = 1 ∨ t.fKind = 2 ∨ t.fKind = 3 := by
 cases d with
 | zero => rcases leaf_kind h with h | h; exact Or.inl h; exact Or.inr (Or.inl h)
 | succ d =>
  rw [rightT] at h
  split at h
  · exact Or.inr (Or.inr ‹_›)
  · rcases leaf_kind h with h | h; exact Or.inl h; exact Or.inr (Or.inl h)
theorem made_eq : ∀ (d k : Nat) (t : GTree), d < k → rightT d t = true → szT d t → value_made k t = some (valT d t)
 | d, 0, t, h, _, _ => by omega
 | 0, k + 1, t, _, hr, _ => by
  rw [value_made, value_made.body, valT]
  rcases leaf_kind hr with h | h
  · rw [if_pos h, if_pos h]; rfl
  · rw [if_neg (by omega), if_pos h, if_neg (by omega), if_pos h]; rfl
 | d + 1, k + 1, t, hk, hr, hz => by
  rw [value_made, value_made.body, valT]
  by_cases h1 : t.fKind = 1
  · rw [if_pos h1, if_pos h1]; rfl
  · by_cases h2 : t.fKind = 2
    · rw [if_neg h1, if_pos h2, if_neg h1, if_pos h2]; rfl
    · have h3 : t.fKind = 3 := by rcases right_kind hr with h | h | h <;> omega
      obtain ⟨hl, he, _, _, _⟩ := ents_len hr h3
      have hs : ∀ e ∈ t.fEntries, e.fTrees.length ≤ 64 ∧ ∀ x ∈ e.fTrees, value_made k x = some (valT d x) := fun e hm => by
       have := entB_mem he e hm
       exact ⟨this.2.2.2.1, fun x hx => made_eq d k x (by omega) (this.2.2.2.2 x hx).2 (hz.2 x (kids_mem hm hx))⟩
      rw [if_neg h1, if_neg h2, if_neg h1, if_neg h2, slices_Clone_Raw, room_t (by have := hz.1.2.1; omega), Option.bind_some, Option.bind_some]
      cases hE : t.fEntries with
      | nil => rfl
      | cons a E =>
       rw [if_pos (by rw [List.length_cons]; omega)]
       have ha := hs a (by rw [hE]; exact List.mem_cons_self ..)
       rw [idx_t (Int.le_refl 0) (show (a :: E)[Int.toNat 0]? = some a from rfl), Option.bind_some, made_l62 (f := valT d) a.fTrees 0 [] ha.2 (by rw [List.length_nil]; omega)]
       have := made_l20 (self := value_made k) (f := valT d) (r12 := t.fRest) (by omega) hs rounds [a] E (by rw [hE]; rfl) (by have := rounds_big; rw [hE, List.length_cons] at hl; omega)
       rw [hE] at this
       exact this
theorem of_eq {t : GTree} (hz : szT 10 t) : value_Of t = some (if checkT t = true then (valT 10 t, true) else (.nil, false)) := by
 rw [value_Of, check_eq hz, Option.bind_some]
 by_cases h : checkT t = true
 · rw [h]
   have hr : rightT 10 t = true := by unfold checkT at h; rw [Bool.and_eq_true] at h; exact h.2
   rw [if_neg (by decide), made_eq 10 rounds t (by have := rounds_big; omega) hr hz]; rfl
 · rw [if_pos (by simpa using h), if_neg h]
theorem tags_l8 : ∀ (l : List GValueEntry) (i : Int) (acc : List Int), acc.length + l.length ≤ 1000 → value_Node_Tags.l8 l i acc = some (acc ++ l.map GValueEntry.ftag)
 | [], i, acc, _ => by rw [value_Node_Tags.l8, List.map_nil, List.append_nil]
 | e :: l, i, acc, h => by
  rw [List.length_cons] at h
  rw [value_Node_Tags.l8, room_t (by omega), Option.bind_some, tags_l8 l _ _ (by rw [List.length_append, List.length_singleton]; omega), List.append_assoc]; rfl
theorem get_l4 {f : GTree → GValueValue} {e : GEntry} {B : List GEntry} (he : e.fTrees.length ≤ 64) : ∀ (A : List GEntry) (i : Int), (∀ a ∈ A, a.fTag ≠ e.fTag) → value_Node_Get.l4 e.fTag ((A ++ e :: B).map (entV f)) i = some (e.fTrees.map f)
 | [], i, _ => by
  rw [List.nil_append, List.map_cons, value_Node_Get.l4, if_pos (show (entV f e).ftag = e.fTag from rfl), show (entV f e).fl = e.fTrees.map f from rfl, slices_Clone_Value, room_t (by rw [List.length_map]; omega)]; rfl
 | a :: A, i, h => by
  rw [List.cons_append, List.map_cons, value_Node_Get.l4, if_neg (show ¬ (entV f a).ftag = e.fTag from h a (List.mem_cons_self ..))]
  exact get_l4 he A _ fun b hb => h b (List.mem_cons_of_mem _ hb)
theorem rawL_len {enc : GTree → Option (List UInt8)} {tag : Int} : ∀ {l : List GTree} {m : List GRaw}, rawL enc tag l = some m → m.length = l.length
 | [], m, h => by cases h; rfl
 | x :: l, m, h => by
  obtain ⟨r, _, h⟩ := bind_some h
  obtain ⟨m', h1, h⟩ := bind_some h
  cases h
  rw [List.length_cons, List.length_cons, rawL_len h1]
def orBig (o : Option (List GRaw)) (k : List GRaw → Option (List GRaw × Int)) : Option (List GRaw × Int) :=
 match o with
 | some m => k m
 | none => some ([], 4)
theorem raws_l24 {selfR : Int → GValueValue → Option (GRaw × Int)} {f : GTree → GValueValue} {enc : GTree → Option (List UInt8)} {x6 : Int} {rec10 : Int → List GRaw → Option (List GRaw × Int)} {tag : Int} : ∀ (l : List GTree) (i : Int) (acc : List GRaw), (∀ x ∈ l, selfR tag (f x) = some (match rawT enc tag x with | some r => (r, 0) | none => (⟨0, 0, 0, []⟩, 4))) → acc.length + l.length < 3518437208882 →
 encode_raws.l24 selfR x6 rec10 tag (l.map f) i acc = orBig (rawL enc tag l) fun m => rec10 (x6 + 1) (acc ++ m)
 | [], i, acc, _, _ => by rw [List.map_nil, encode_raws.l24, rawL, orBig, List.append_nil]
 | x :: l, i, acc, h, hl => by
  rw [List.length_cons] at hl
  rw [List.map_cons, encode_raws.l24, h x (List.mem_cons_self ..), Option.bind_some, rawL]
  cases hx : rawT enc tag x with
  | none => rfl
  | some r =>
   dsimp only
   rw [if_pos rfl, room_t (by omega), Option.bind_some, raws_l24 l _ _ (fun z hz => h z (List.mem_cons_of_mem _ hz)) (by rw [List.length_append, List.length_singleton]; omega), Option.bind_some]
   cases rawL enc tag l with
   | none => rfl
   | some m => simp only [orBig, Option.bind_some, List.append_assoc, List.cons_append, List.nil_append]
theorem raws_l10 {selfR : Int → GValueValue → Option (GRaw × Int)} {f : GTree → GValueValue} {enc : GTree → Option (List UInt8)} {E : List GEntry} {rest : List GRaw} (hs : E.Pairwise TagLt) (ht : ∀ e ∈ E, e.fTrees.length ≤ 64 ∧ ∀ x ∈ e.fTrees, selfR e.fTag (f x) = some (match rawT enc e.fTag x with | some r => (r, 0) | none => (⟨0, 0, 0, []⟩, 4))) (hn : E.length ≤ 500) :
 ∀ (B A : List GEntry) (i : Int) (acc : List GRaw), E = A ++ B → acc.length ≤ 900000 + 64 * A.length → encode_raws.l10 selfR ⟨E.map (entV f), rest⟩ (B.map GEntry.fTag) i acc = orBig (rawE enc B) fun m => some (srt (acc ++ m), 0)
 | [], A, i, acc, h, ha => by
  have hl : E.length = A.length := by rw [h, List.append_nil]
  rw [List.map_nil, encode_raws.l10, sorted_eq (by omega), rawE, orBig, List.append_nil]; rfl
 | e :: B, A, i, acc, h, ha => by
  have hl : E.length = A.length + (B.length + 1) := by rw [h, List.length_append, List.length_cons]
  have he := ht e (by rw [h]; exact List.mem_append_right _ (List.mem_cons_self ..))
  have hA : ∀ a ∈ A, a.fTag ≠ e.fTag := fun a hm => by
   rw [h] at hs
   have := (List.pairwise_append.1 hs).2.2 a hm e (List.mem_cons_self ..)
   unfold TagLt at this; omega
  have hg : value_Node_Get ⟨E.map (entV f), rest⟩ e.fTag = some (e.fTrees.map f) := by
   rw [value_Node_Get, h]; exact get_l4 he.1 A 0 hA
  rw [List.map_cons, encode_raws.l10, hg, Option.bind_some, raws_l24 (enc := enc) e.fTrees 0 acc he.2 (by omega), rawE]
  cases hL : rawL enc e.fTag e.fTrees with
  | none => rfl
  | some m =>
   have hm := rawL_len hL
   rw [orBig, raws_l10 hs ht hn B (A ++ [e]) _ _ (by rw [h, List.append_assoc]; rfl) (by rw [List.length_append, List.length_append, List.length_singleton]; omega), Option.bind_some]
   cases rawE enc B with
   | none => rfl
   | some m' => simp only [orBig, Option.bind_some, List.append_assoc]
end Go.Proofs.YtaddlmlpeghonaaDoor
