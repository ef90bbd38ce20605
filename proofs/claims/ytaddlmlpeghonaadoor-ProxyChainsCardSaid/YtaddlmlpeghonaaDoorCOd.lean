/- Parts of the proof, cut down to what it needs. -/
import Derived.Test.YtaddlmlpeghonaaDoorCSe
import Derived.Test.YtaddlmlpeghonaaDoorCCc
import Derived.Test.YtaddlmlpeghonaaDoorRows
import Derived.Test.YtaddlmlpeghonaaDoorChecked
import Derived.Test.YtaddlmlpeghonaaDoorTie
import Derived.ProofKit
import Derived.OpenShut
import Derived.ShutString
import Derived.ChangeOld
import Derived.ChangeSame
import Derived.ChangeVars
import Derived.JoinedOf
import Derived.RowKit
import Derived.LaidLaws
import Derived.LaidHandle
import Derived.Lib.LaidIn
import Derived.Lib.LaidU8T
import Derived.SevenTiedAt
set_option linter.constructorNameAsVariable false
set_option linter.unusedSimpArgs false
set_option linter.unusedVariables false
open List renaming length → lN, flatMap → fM, length_append → lP, length_cons → lC, length_nil → lZ, mem_cons_of_mem → mO, mem_cons_self → mS, append_assoc → aA, getD_eq_getElem?_getD → gG, append_nil → aN, map_nil → mN, map_cons → mC, nil_append → nA, flatMap_append → fA, flatMap_nil → fZ, flatMap_cons → fC, mem_append → mA, cons_append → cA, pairwise_cons → pC, length_map → lM, drop_zero → dZ, getElem?_append_right → gR, getElem?_append_left → gL, map_append → mP, length_eq_zero_iff → lI, mem_cons → mI
open Option renaming bind_some → bS, some.injEq → sI
open Nat renaming reduceLT → rL, reduceLeDiff → rD, reduceEqDiff → rE, reduceAdd → rA, reduceMul → rM, reduceSub → rS, zero_add → nZ, le_refl → nR, lt_succ_self → nS
section
set_option maxRecDepth 4000
namespace Go.Proofs.YtaddlmlpeghonaaDoor
open AM
theorem in0 : In64 0 := ⟨by decide, by decide⟩
def rawT (enc : GTree → Option (List UInt8)) (tag : Int) (x : GTree) : Option GRaw :=
 if x.fKind = 1 then some ⟨tag, 0, x.fN, []⟩
 else if x.fKind = 2 then (if 4096 < x.fS.length then none else some ⟨tag, 1, 0, x.fS⟩)
 else (enc x).bind fun b => some ⟨tag, 1, 0, b⟩
def rawL (enc : GTree → Option (List UInt8)) (tag : Int) : List GTree → Option (List GRaw)
 | [] => some []
 | x :: l => (rawT enc tag x).bind fun r => (rawL enc tag l).bind fun m => some (r :: m)
def rawE (enc : GTree → Option (List UInt8)) : List GEntry → Option (List GRaw)
 | [] => some []
 | e :: l => (rawL enc e.fTag e.fTrees).bind fun a => (rawE enc l).bind fun m => some (a ++ m)
def putB (l : List GRaw) : Option (List UInt8) := if 4096 < (zk1 l).length then none else some (zk1 l)
def encT : Nat → GTree → Option (List UInt8)
 | 0, _ => none
 | d + 1, t => (rawE (encT d) t.fEntries).bind fun L => putB (srt (t.fRest ++ L))
def valT : Nat → GTree → GValueValue
 | 0, t => if t.fKind = 1 then .num t.fN else if t.fKind = 2 then .str t.fS else .node [] t.fRest
 | d + 1, t => if t.fKind = 1 then .num t.fN else if t.fKind = 2 then .str t.fS else .node (t.fEntries.map fun e => ⟨e.fTag, e.fTrees.map (valT d)⟩) t.fRest
theorem made_l62 {self : GTree → Option GValueValue} {f : GTree → GValueValue} {t : GTree} {r12 : List GRaw} {y : GEntry} : ∀ (l : List GTree) (i : Int) (acc : List GValueValue), (∀ x ∈ l, self x = some (f x)) → acc.length + l.length ≤ 64 →
 value_made.l62 self t r12 y l i acc = value_made.l20 self t r12 rounds [⟨y.fTag, acc ++ l.map f⟩] 1
 | [], i, acc, _, _ => by
  rw [value_made.l62, mN, aN, zW (by decide) (by decide)]; rfl
 | x :: l, i, acc, h, hl => by
  rw [lC] at hl
  rw [value_made.l62, h x (mS ..), bS, zM1 (by omega), bS, made_l62 l _ _ (fun z hz => h z (mO _ hz)) (by rw [lP, List.length_singleton]; omega), aA]; rfl
theorem made_l35 {self : GTree → Option GValueValue} {f : GTree → GValueValue} {l14 : List GValueEntry} {x16 : Int} {rec20 : List GValueEntry → Int → Option GValueValue} {y : GEntry} (hl14 : l14.length ≤ 1000) : ∀ (l : List GTree) (i : Int) (acc : List GValueValue), (∀ x ∈ l, self x = some (f x)) → acc.length + l.length ≤ 64 →
 value_made.l35 self l14 x16 rec20 y l i acc = rec20 (l14 ++ [⟨y.fTag, acc ++ l.map f⟩]) (IntKind.i64.wrap (x16 + 1))
 | [], i, acc, _, _ => by
  rw [value_made.l35, mN, aN, zM1 (by omega), bS]
 | x :: l, i, acc, h, hl => by
  rw [lC] at hl
  rw [value_made.l35, h x (mS ..), bS, zM1 (by omega), bS, made_l35 hl14 l _ _ (fun z hz => h z (mO _ hz)) (by rw [lP, List.length_singleton]; omega), aA]; rfl
def entV (f : GTree → GValueValue) (e : GEntry) : GValueEntry := ⟨e.fTag, e.fTrees.map f⟩
theorem made_l20 {self : GTree → Option GValueValue} {f : GTree → GValueValue} {t : GTree} {r12 : List GRaw} (hn : t.fEntries.length ≤ 1000) (hs : ∀ e ∈ t.fEntries, e.fTrees.length ≤ 64 ∧ ∀ x ∈ e.fTrees, self x = some (f x)) : ∀ (k : Nat) (A B : List GEntry), t.fEntries = A ++ B → B.length < k →
 value_made.l20 self t r12 k (A.map (entV f)) (A.length : Int) = some (.node (t.fEntries.map (entV f)) r12)
 | 0, A, B, _, h => by omega
 | k + 1, A, [], h, _ => by
  rw [aN] at h
  rw [value_made.l20, if_neg (by rw [h]; omega), h]
 | k + 1, A, e :: B, h, hk => by
  rw [lC] at hk
  have hl : t.fEntries.length = A.length + (B.length + 1) := by rw [h, lP, lC]
  have he := hs e (by rw [h]; exact List.mem_append_right _ (mS ..))
  have ei : idxL t.fEntries (A.length : Int) = some e := by rw [h]; exact zn3 rfl
  rw [value_made.l20, if_pos (by omega), ei, bS, made_l35 (f := f) (by rw [lM]; omega) e.fTrees 0 [] he.2 (by rw [lZ]; omega), zW (by omega) (by omega)]
  have := made_l20 (self := self) (f := f) (r12 := r12) hn hs k (A ++ [e]) B (by rw [h, aA]; rfl) (by omega)
  rw [mP, lP, List.length_singleton] at this
  rw [show (A.length : Int) + 1 = ((A.length + 1 : Nat) : Int) by omega]
  exact this
theorem zX2 {f : GTree → Bool} : ∀ {l : List GEntry} {last : Int}, entB f last l = true → ∀ e ∈ l, last < e.fTag ∧ e.fTag ≤ 500 ∧ 1 ≤ e.fTrees.length ∧ e.fTrees.length ≤ 64 ∧ (∀ x ∈ e.fTrees, x.fKind = (e.fTrees.headD zm2).fKind ∧ f x = true)
 | [], _, _, e, he => by cases he
 | a :: l, last, h, e, he => by
  rw [entB, Bool.and_eq_true, Bool.and_eq_true, decide_eq_true_eq] at h
  rcases mI.1 he with rfl | he
  · refine ⟨h.1.1.1, h.1.1.2.1, h.1.1.2.2.1, h.1.1.2.2.2, fun x hx => ?_⟩
    have := List.all_eq_true.1 h.1.2 x hx
    rw [Bool.and_eq_true, decide_eq_true_eq] at this
    exact this
  · obtain ⟨h1, h2⟩ := zX2 h.2 e he
    exact ⟨by omega, h2⟩
theorem zW2 {f : GTree → Bool} : ∀ {l : List GEntry} {last : Int}, entB f last l = true → l.Pairwise zP2
 | [], _, _ => List.Pairwise.nil
 | a :: l, last, h => by
  rw [entB, Bool.and_eq_true, Bool.and_eq_true] at h
  rw [pC]
  exact ⟨fun e he => (zX2 h.2 e he).1, zW2 h.2⟩
theorem sorted_len {n : Nat} : ∀ {l : List GEntry} {lo : Int}, l.Pairwise zP2 → (∀ e ∈ l, lo < e.fTag ∧ e.fTag ≤ lo + n) → l.length ≤ n
 | [], _, _, _ => Nat.zero_le _
 | a :: l, lo, h, hl => by
  rw [pC] at h
  have ha := hl a (mS ..)
  cases n with
  | zero => omega
  | succ n =>
   rw [lC]
   refine Nat.succ_le_succ (sorted_len (n := n) (lo := lo + 1) h.2 fun e he => ?_)
   have h1 := h.1 e he
   have h2 := hl e (mO _ he)
   unfold zP2 at h1; omega
theorem zQ4 {d : Nat} {t : GTree} (h : zC1 (d + 1) t = true) (h3 : t.fKind = 3) : t.fEntries.length ≤ 500 ∧ entB (zC1 d) 0 t.fEntries = true ∧ restB t = true ∧ t.fN = 0 ∧ t.fS = [] := by
 rw [zC1, if_pos h3] at h
 simp only [Bool.and_eq_true, decide_eq_true_eq] at h
 refine ⟨?_, h.1.2, h.2, h.1.1.1, h.1.1.2⟩
 exact sorted_len (n := 500) (lo := 0) (zW2 h.1.2) fun e he => by
  have := zX2 h.1.2 e he; omega
theorem zW3 {t : GTree} (h : leafB t = true) : t.fKind = 1 ∨ t.fKind = 2 := by
 unfold leafB at h
 split at h
 · exact Or.inl ‹_›
 · split at h
   · exact Or.inr ‹_›
   · cases h
theorem zk4 {d : Nat} {t : GTree} (h : zC1 d t = true) : t.fKind = 1 ∨ t.fKind = 2 ∨ t.fKind = 3 := by
 cases d with
 | zero => rcases zW3 h with h | h; exact Or.inl h; exact Or.inr (Or.inl h)
 | succ d =>
  rw [zC1] at h
  split at h
  · exact Or.inr (Or.inr ‹_›)
  · rcases zW3 h with h | h; exact Or.inl h; exact Or.inr (Or.inl h)
theorem made_eq : ∀ (d k : Nat) (t : GTree), d < k → zC1 d t = true → szT d t → value_made k t = some (valT d t)
 | d, 0, t, h, _, _ => by omega
 | 0, k + 1, t, _, hr, _ => by
  rw [value_made, value_made.body, valT]
  rcases zW3 hr with h | h
  · rw [if_pos h, if_pos h]; rfl
  · rw [if_neg (by omega), if_pos h, if_neg (by omega), if_pos h]; rfl
 | d + 1, k + 1, t, hk, hr, hz => by
  rw [value_made, value_made.body, valT]
  by_cases h1 : t.fKind = 1
  · rw [if_pos h1, if_pos h1]; rfl
  · by_cases h2 : t.fKind = 2
    · rw [if_neg h1, if_pos h2, if_neg h1, if_pos h2]; rfl
    · have h3 : t.fKind = 3 := by rcases zk4 hr with h | h | h <;> omega
      obtain ⟨hl, he, _, _, _⟩ := zQ4 hr h3
      have hs : ∀ e ∈ t.fEntries, e.fTrees.length ≤ 64 ∧ ∀ x ∈ e.fTrees, value_made k x = some (valT d x) := fun e hm => by
       have := zX2 he e hm
       exact ⟨this.2.2.2.1, fun x hx => made_eq d k x (by omega) (this.2.2.2.2 x hx).2 (hz.2 x (zu3 hm hx))⟩
      rw [if_neg h1, if_neg h2, if_neg h1, if_neg h2, slices_Clone_Raw, zM1 (by have := hz.1.2.1; omega), bS, bS]
      cases hE : t.fEntries with
      | nil => rfl
      | cons a E =>
       rw [if_pos (by rw [lC]; omega)]
       have ha := hs a (by rw [hE]; exact mS ..)
       rw [idx_t (Int.le_refl 0) (show (a :: E)[Int.toNat 0]? = some a from rfl), bS, made_l62 (f := valT d) a.fTrees 0 [] ha.2 (by rw [lZ]; omega)]
       have := made_l20 (self := value_made k) (f := valT d) (r12 := t.fRest) (by omega) hs rounds [a] E (by rw [hE]; rfl) (by have := zS; rw [hE, lC] at hl; omega)
       rw [hE] at this
       exact this
theorem of_eq {t : GTree} (hz : szT 10 t) : value_Of t = some (if zO2 t = true then (valT 10 t, true) else (.nil, false)) := by
 rw [value_Of, check_eq hz, bS]
 by_cases h : zO2 t = true
 · rw [h]
   have hr : zC1 10 t = true := by unfold zO2 at h; rw [Bool.and_eq_true] at h; exact h.2
   rw [if_neg (by decide), made_eq 10 rounds t (by have := zS; omega) hr hz]; rfl
 · rw [if_pos (by simpa using h), if_neg h]
theorem tags_l8 : ∀ (l : List GValueEntry) (i : Int) (acc : List Int), acc.length + l.length ≤ 1000 → value_Node_Tags.l8 l i acc = some (acc ++ l.map GValueEntry.ftag)
 | [], i, acc, _ => by rw [value_Node_Tags.l8, mN, aN]
 | e :: l, i, acc, h => by
  rw [lC] at h
  rw [value_Node_Tags.l8, zM1 (by omega), bS, tags_l8 l _ _ (by rw [lP, List.length_singleton]; omega), aA]; rfl
theorem get_l4 {f : GTree → GValueValue} {e : GEntry} {B : List GEntry} (he : e.fTrees.length ≤ 64) : ∀ (A : List GEntry) (i : Int), (∀ a ∈ A, a.fTag ≠ e.fTag) → value_Node_Get.l4 e.fTag ((A ++ e :: B).map (entV f)) i = some (e.fTrees.map f)
 | [], i, _ => by
  rw [nA, mC, value_Node_Get.l4, if_pos (show (entV f e).ftag = e.fTag from rfl), show (entV f e).fl = e.fTrees.map f from rfl, slices_Clone_Value, zM1 (by rw [lM]; omega)]; rfl
 | a :: A, i, h => by
  rw [cA, mC, value_Node_Get.l4, if_neg (show ¬ (entV f a).ftag = e.fTag from h a (mS ..))]
  exact get_l4 he A _ fun b hb => h b (mO _ hb)
theorem rawL_len {enc : GTree → Option (List UInt8)} {tag : Int} : ∀ {l : List GTree} {m : List GRaw}, rawL enc tag l = some m → m.length = l.length
 | [], m, h => by cases h; rfl
 | x :: l, m, h => by
  obtain ⟨r, _, h⟩ := bind_some h
  obtain ⟨m', h1, h⟩ := bind_some h
  cases h
  rw [lC, lC, rawL_len h1]
def zm5 (o : Option (List GRaw)) (k : List GRaw → Option (List GRaw × Int)) : Option (List GRaw × Int) :=
 match o with
 | some m => k m
 | none => some ([], 4)
theorem raws_l24 {selfR : Int → GValueValue → Option (GRaw × Int)} {f : GTree → GValueValue} {enc : GTree → Option (List UInt8)} {x6 : Int} {rec10 : Int → List GRaw → Option (List GRaw × Int)} {tag : Int} : ∀ (l : List GTree) (i : Int) (acc : List GRaw), (∀ x ∈ l, selfR tag (f x) = some (match rawT enc tag x with | some r => (r, 0) | none => (⟨0, 0, 0, []⟩, 4))) → acc.length + l.length < 3518437208882 →
 encode_raws.l24 selfR x6 rec10 tag (l.map f) i acc = zm5 (rawL enc tag l) fun m => rec10 (x6 + 1) (acc ++ m)
 | [], i, acc, _, _ => by rw [mN, encode_raws.l24, rawL, zm5, aN]
 | x :: l, i, acc, h, hl => by
  rw [lC] at hl
  rw [mC, encode_raws.l24, h x (mS ..), bS, rawL]
  cases hx : rawT enc tag x with
  | none => rfl
  | some r =>
   dsimp only
   rw [if_pos rfl, zM1 (by omega), bS, raws_l24 l _ _ (fun z hz => h z (mO _ hz)) (by rw [lP, List.length_singleton]; omega), bS]
   cases rawL enc tag l with
   | none => rfl
   | some m => simp only [zm5, bS, aA, cA, nA]
theorem raws_l10 {selfR : Int → GValueValue → Option (GRaw × Int)} {f : GTree → GValueValue} {enc : GTree → Option (List UInt8)} {E : List GEntry} {rest : List GRaw} (hs : E.Pairwise zP2) (ht : ∀ e ∈ E, e.fTrees.length ≤ 64 ∧ ∀ x ∈ e.fTrees, selfR e.fTag (f x) = some (match rawT enc e.fTag x with | some r => (r, 0) | none => (⟨0, 0, 0, []⟩, 4))) (hn : E.length ≤ 500) :
 ∀ (B A : List GEntry) (i : Int) (acc : List GRaw), E = A ++ B → acc.length ≤ 900000 + 64 * A.length → encode_raws.l10 selfR ⟨E.map (entV f), rest⟩ (B.map GEntry.fTag) i acc = zm5 (rawE enc B) fun m => some (srt (acc ++ m), 0)
 | [], A, i, acc, h, ha => by
  have hl : E.length = A.length := by rw [h, aN]
  rw [mN, encode_raws.l10, sorted_eq (by omega), rawE, zm5, aN]; rfl
 | e :: B, A, i, acc, h, ha => by
  have hl : E.length = A.length + (B.length + 1) := by rw [h, lP, lC]
  have he := ht e (by rw [h]; exact List.mem_append_right _ (mS ..))
  have hA : ∀ a ∈ A, a.fTag ≠ e.fTag := fun a hm => by
   rw [h] at hs
   have := (List.pairwise_append.1 hs).2.2 a hm e (mS ..)
   unfold zP2 at this; omega
  have hg : value_Node_Get ⟨E.map (entV f), rest⟩ e.fTag = some (e.fTrees.map f) := by
   rw [value_Node_Get, h]; exact get_l4 he.1 A 0 hA
  rw [mC, encode_raws.l10, hg, bS, raws_l24 (enc := enc) e.fTrees 0 acc he.2 (by omega), rawE]
  cases hL : rawL enc e.fTag e.fTrees with
  | none => rfl
  | some m =>
   have hm := rawL_len hL
   rw [zm5, raws_l10 hs ht hn B (A ++ [e]) _ _ (by rw [h, aA]; rfl) (by rw [lP, lP, List.length_singleton]; omega), bS]
   cases rawE enc B with
   | none => rfl
   | some m' => simp only [zm5, bS, aA]
end Go.Proofs.YtaddlmlpeghonaaDoor
end
section
set_option maxRecDepth 4000
namespace Go.Proofs.YtaddlmlpeghonaaDoor
open AM
theorem putB_some {l : List GRaw} {b : List UInt8} (h : putB l = some b) : b = zk1 l ∧ b.length ≤ 4096 := by
 unfold putB at h
 split at h
 · cases h
 · cases h; exact ⟨rfl, by omega⟩
theorem encT_le {d : Nat} {t : GTree} {b : List UInt8} (h : encT d t = some b) : b.length ≤ 4096 := by
 cases d with
 | zero => cases h
 | succ d =>
  rw [encT] at h
  obtain ⟨L, _, h⟩ := bind_some h
  exact (putB_some h).2
theorem rawT_ok {d : Nat} {tag : Int} {x : GTree} {r : GRaw} (h1 : 1 ≤ tag) (h2 : tag ≤ 500) (hx : In64 x.fN) (h : rawT (encT d) tag x = some r) : zs2 r ∧ r.fTag = tag := by
 unfold rawT at h
 split at h
 · cases h; exact ⟨⟨check_num h1 h2, hx⟩, rfl⟩
 · split at h
   · split at h
     · cases h
     · cases h; exact ⟨⟨zr4 h1 h2 (by omega), in0⟩, rfl⟩
   · obtain ⟨b, hb, h⟩ := bind_some h
     cases h; exact ⟨⟨zr4 h1 h2 (encT_le hb), in0⟩, rfl⟩
theorem rawL_ok {d : Nat} {tag : Int} (h1 : 1 ≤ tag) (h2 : tag ≤ 500) : ∀ {l : List GTree} {m : List GRaw}, (∀ x ∈ l, In64 x.fN) → rawL (encT d) tag l = some m → ∀ r ∈ m, zs2 r ∧ r.fTag = tag
 | [], m, _, h, r, hr => by cases h; cases hr
 | x :: l, m, hx, h, r, hr => by
  obtain ⟨a, ha, h⟩ := bind_some h
  obtain ⟨m', hm, h⟩ := bind_some h
  cases h
  rcases mI.1 hr with rfl | hr
  · exact rawT_ok h1 h2 (hx x (mS ..)) ha
  · exact rawL_ok h1 h2 (fun z hz => hx z (mO _ hz)) hm r hr
theorem rawE_ok {d : Nat} : ∀ {l : List GEntry} {m : List GRaw}, (∀ e ∈ l, 1 ≤ e.fTag ∧ e.fTag ≤ 500 ∧ ∀ x ∈ e.fTrees, In64 x.fN) → rawE (encT d) l = some m → ∀ r ∈ m, zs2 r ∧ ∃ e ∈ l, r.fTag = e.fTag
 | [], m, _, h, r, hr => by cases h; cases hr
 | e :: l, m, hx, h, r, hr => by
  obtain ⟨a, ha, h⟩ := bind_some h
  obtain ⟨m', hm, h⟩ := bind_some h
  cases h
  have he := hx e (mS ..)
  rcases mA.1 hr with hr | hr
  · have := rawL_ok he.1 he.2.1 he.2.2 ha r hr
    exact ⟨this.1, e, mS .., this.2⟩
  · obtain ⟨h1, e', h2, h3⟩ := rawE_ok (fun z hz => hx z (mO _ hz)) hm r hr
    exact ⟨h1, e', mO _ h2, h3⟩
theorem szT_own {d : Nat} {t : GTree} (h : szT d t) : ownS t := by
 cases d with
 | zero => exact h
 | succ d => exact h.1
theorem restB_mem {t : GTree} (h : restB t = true) : (∀ r ∈ t.fRest, wire_Check r = true ∧ ∀ e ∈ t.fEntries, e.fTag ≠ r.fTag) ∧ t.fRest.Pairwise TagLe := by
 unfold restB at h
 rw [Bool.and_eq_true] at h
 refine ⟨fun r hr => ?_, risB_iff.1 h.2⟩
 have := List.all_eq_true.1 h.1 r hr
 rw [Bool.and_eq_true, Bool.not_eq_true'] at this
 refine ⟨this.1, fun e he hc => ?_⟩
 have h2 := List.any_eq_false.1 this.2 e he
 exact h2 (decide_eq_true hc)
theorem raws_ok {d : Nat} {t : GTree} {L : List GRaw} (hr : zC1 (d + 1) t = true) (h3 : t.fKind = 3) (hz : szT (d + 1) t) (hL : rawE (encT d) t.fEntries = some L) : ∀ r ∈ srt (t.fRest ++ L), zs2 r := by
 obtain ⟨_, he, hb, _, _⟩ := zQ4 hr h3
 intro r hm
 rw [srt_mem] at hm
 rcases mA.1 hm with hm | hm
 · exact ⟨((restB_mem hb).1 r hm).1, hz.1.2.2 r hm⟩
 · exact (rawE_ok (fun e hm => by
    have := zX2 he e hm
    exact ⟨by omega, this.2.1, fun x hx => (szT_own (hz.2 x (zu3 hm hx))).1⟩) hL r hm).1
def orBad (o : Option (List UInt8)) : List UInt8 × Int :=
 match o with
 | some b => (b, 0)
 | none => ([], 4)
theorem zk5 {l : List GRaw} (h : ∀ r ∈ l, zs2 r) : wire_PutAll l = some (orBad (putB l)) := by
 rw [putAll_eq fun r hr => (h r hr).2, if_pos (List.all_eq_true.2 fun r hr => (h r hr).1), putB]
 split
 · rfl
 · rfl
theorem tags_eq {f : GTree → GValueValue} {E : List GEntry} {rest : List GRaw} (h : E.length ≤ 500) : value_Node_Tags ⟨E.map (entV f), rest⟩ = some (E.map GEntry.fTag) := by
 rw [value_Node_Tags]
 have := tags_l8 (E.map (entV f)) 0 [] (by rw [lZ, lM]; omega)
 rw [this, nA, List.map_map]; rfl
theorem raws_eq {selfB : GValueNode → Option (List UInt8 × Int)} {selfR : Int → GValueValue → Option (GRaw × Int)} {selfS : GValueNode → Option (List GRaw × Int)} {f : GTree → GValueValue} {enc : GTree → Option (List UInt8)} {E : List GEntry} {rest : List GRaw} (hs : E.Pairwise zP2) (ht : ∀ e ∈ E, e.fTrees.length ≤ 64 ∧ ∀ x ∈ e.fTrees, selfR e.fTag (f x) = some (match rawT enc e.fTag x with | some r => (r, 0) | none => (⟨0, 0, 0, []⟩, 4))) (hn : E.length ≤ 500) (hr : rest.length ≤ 900000) :
 encode_raws.body selfB selfR selfS ⟨E.map (entV f), rest⟩ = zm5 (rawE enc E) fun m => some (srt (rest ++ m), 0) := by
 rw [encode_raws.body, tags_eq hn, value_Node_Rest, slices_Clone_Raw, zM1 (by dsimp only; omega), bS, bS, bS, bS]
 exact raws_l10 hs ht hn E [] 0 rest rfl (by rw [lZ]; omega)
theorem bytes_eq : ∀ (d k : Nat) (t : GTree) (es : List GValueEntry) (rs : List GRaw), 3 * d ≤ k → zC1 d t = true → t.fKind = 3 → szT d t → valT d t = .node es rs → encode_bytes k ⟨es, rs⟩ = some (orBad (encT d t))
 | 0, k, t, es, rs, _, hr, h3, _, _ => by
  rcases zW3 hr with h | h <;> omega
 | d + 1, k, t, es, rs, hk, hr, h3, hz, hv => by
  obtain ⟨k', rfl⟩ : ∃ k', k = k' + 3 := ⟨k - 3, by omega⟩
  obtain ⟨hl, he, hb, _, _⟩ := zQ4 hr h3
  rw [valT, if_neg (by omega), if_neg (by omega)] at hv
  cases hv
  have hs : ∀ e ∈ t.fEntries, e.fTrees.length ≤ 64 ∧ ∀ x ∈ e.fTrees, encode_raw (k' + 1) e.fTag (valT d x) = some (match rawT (encT d) e.fTag x with | some r => (r, 0) | none => (⟨0, 0, 0, []⟩, 4)) := by
   intro e hm
   have h1 := zX2 he e hm
   refine ⟨h1.2.2.2.1, fun x hx => ?_⟩
   have hrx := (h1.2.2.2.2 x hx).2
   have hzx := hz.2 x (zu3 hm hx)
   rw [encode_raw, encode_raw.body, rawT]
   rcases zk4 hrx with h | h | h
   · have hv : valT d x = .num x.fN := by cases d <;> rw [valT, if_pos h]
     rw [hv, if_pos h]; rfl
   · have hv : valT d x = .str x.fS := by cases d <;> rw [valT, if_neg (by omega), if_pos h]
     rw [hv, if_neg (by omega), if_pos h, show encode_kept (.str x.fS) = some (.str x.fS) from rfl, bS]
     dsimp only
     rw [encode_raw.j3]
     by_cases hc : 4096 < x.fS.length
     · rw [if_pos hc, if_pos (by dsimp only; omega)]
     · rw [if_neg hc, if_neg (by dsimp only; omega)]
   · have h1' : ¬ x.fKind = 1 := by omega
     have h2' : ¬ x.fKind = 2 := by omega
     obtain ⟨es, rs, hv⟩ : ∃ es rs, valT d x = .node es rs := by cases d <;> exact ⟨_, _, by rw [valT, if_neg h1', if_neg h2']⟩
     rw [hv, if_neg h1', if_neg h2', show encode_kept (.node es rs) = some (.node es rs) from rfl, bS]
     dsimp only
     rw [bytes_eq d k' x es rs (by omega) hrx h hzx hv, bS]
     cases hx' : encT d x with
     | none => rfl
     | some b =>
      have hbl := encT_le hx'
      rw [orBad]; dsimp only
      rw [if_pos rfl, encode_raw.j3, if_neg (by dsimp only; omega), bS]
  have hR : encode_raws (k' + 2) ⟨t.fEntries.map fun e => ⟨e.fTag, e.fTrees.map (valT d)⟩, t.fRest⟩ = zm5 (rawE (encT d) t.fEntries) fun m => some (srt (t.fRest ++ m), 0) := by
   rw [encode_raws]
   exact raws_eq (f := valT d) (zW2 he) hs hl hz.1.2.1
  rw [encode_bytes, encode_bytes.body, hR, encT]
  cases hL : rawE (encT d) t.fEntries with
  | none => rfl
  | some L =>
   rw [zm5, bS]; dsimp only
   rw [if_pos rfl, zk5 (raws_ok hr h3 hz hL), bS, bS]
theorem rawE_eq {d k : Nat} {t : GTree} (hk : 3 * d + 2 ≤ k) (hr : zC1 (d + 1) t = true) (h3 : t.fKind = 3) (hz : szT (d + 1) t) : encode_raws k ⟨t.fEntries.map (entV (valT d)), t.fRest⟩ = zm5 (rawE (encT d) t.fEntries) fun m => some (srt (t.fRest ++ m), 0) := by
 obtain ⟨k', rfl⟩ : ∃ k', k = k' + 2 := ⟨k - 2, by omega⟩
 obtain ⟨hl, he, hb, _, _⟩ := zQ4 hr h3
 rw [encode_raws]
 refine raws_eq (f := valT d) (zW2 he) ?_ hl hz.1.2.1
 intro e hm
 have h1 := zX2 he e hm
 refine ⟨h1.2.2.2.1, fun x hx => ?_⟩
 have hrx := (h1.2.2.2.2 x hx).2
 have hzx := hz.2 x (zu3 hm hx)
 rw [encode_raw, encode_raw.body, rawT]
 rcases zk4 hrx with h | h | h
 · have hv : valT d x = .num x.fN := by cases d <;> rw [valT, if_pos h]
   rw [hv, if_pos h]; rfl
 · have hv : valT d x = .str x.fS := by cases d <;> rw [valT, if_neg (by omega), if_pos h]
   rw [hv, if_neg (by omega), if_pos h, show encode_kept (.str x.fS) = some (.str x.fS) from rfl, bS]
   dsimp only
   rw [encode_raw.j3]
   by_cases hc : 4096 < x.fS.length
   · rw [if_pos hc, if_pos (by dsimp only; omega)]
   · rw [if_neg hc, if_neg (by dsimp only; omega)]
 · have h1' : ¬ x.fKind = 1 := by omega
   have h2' : ¬ x.fKind = 2 := by omega
   obtain ⟨es, rs, hv⟩ : ∃ es rs, valT d x = .node es rs := by cases d <;> exact ⟨_, _, by rw [valT, if_neg h1', if_neg h2']⟩
   rw [hv, if_neg h1', if_neg h2', show encode_kept (.node es rs) = some (.node es rs) from rfl, bS]
   dsimp only
   rw [bytes_eq d k' x es rs (by omega) hrx h hzx hv, bS]
   cases hx' : encT d x with
   | none => rfl
   | some b =>
    have hbl := encT_le hx'
    rw [orBad]; dsimp only
    rw [if_pos rfl, encode_raw.j3, if_neg (by dsimp only; omega), bS]
theorem zz5 {t : GTree} (h : zO2 t = true) : zC1 10 t = true ∧ depT 101 t ≤ 10 := by
 unfold zO2 at h
 rw [Bool.and_eq_true, decide_eq_true_eq] at h
 exact ⟨h.2, h.1⟩
theorem Raws_eq {t : GTree} (hz : szT 10 t) : encode_Raws t = some (if zO2 t = true ∧ t.fKind = 3 then (match rawE (encT 9) t.fEntries with | some L => (srt (t.fRest ++ L), (0 : Int)) | none => ([], 4)) else ([], 1)) := by
 rw [encode_Raws, of_eq hz, bS]
 by_cases hc : zO2 t = true
 · rw [if_pos hc]
   by_cases h3 : t.fKind = 3
   · rw [if_neg (by rw [decide_eq_true h3]; exact Bool.false_ne_true), if_pos ⟨hc, h3⟩]
     have hv : valT 10 t = .node (t.fEntries.map (entV (valT 9))) t.fRest := by rw [valT, if_neg (by omega), if_neg (by omega)]; rfl
     rw [hv, show value_Value_MustNode (.node (t.fEntries.map (entV (valT 9))) t.fRest) = some ⟨t.fEntries.map (entV (valT 9)), t.fRest⟩ from rfl, bS, rawE_eq (d := 9) (by have := zS; omega) (zz5 hc).1 h3 hz]
     cases rawE (encT 9) t.fEntries <;> rfl
   · rw [if_pos (by rw [decide_eq_false h3]; rfl), if_neg (fun h => h3 h.2)]
 · rw [if_neg hc, if_pos (by rfl), if_neg (fun h => hc h.1)]
theorem Encode_eq {t : GTree} (hz : szT 10 t) : encode_Encode t = some (if zO2 t = true ∧ t.fKind = 3 then orBad (encT 10 t) else ([], 1)) := by
 rw [encode_Encode, Raws_eq hz, bS]
 by_cases hc : zO2 t = true ∧ t.fKind = 3
 · rw [if_pos hc, if_pos hc, encT]
   cases hL : rawE (encT 9) t.fEntries with
   | none => rfl
   | some L =>
    dsimp only
    rw [if_pos rfl, zk5 (raws_ok (zz5 hc.1).1 hc.2 hz hL), bS, bS]
 · rw [if_neg hc, if_neg hc]; rfl
end Go.Proofs.YtaddlmlpeghonaaDoor
end
section
set_option maxRecDepth 4000
namespace Go.Proofs.YtaddlmlpeghonaaDoor
open AM

end Go.Proofs.YtaddlmlpeghonaaDoor
end
section
set_option maxRecDepth 4000
namespace Go.Proofs.YtaddlmlpeghonaaDoor
open AM

end Go.Proofs.YtaddlmlpeghonaaDoor
end
section
set_option maxRecDepth 4000
namespace Go.Proofs.YtaddlmlpeghonaaDoor
open AM
theorem count_l (a : List UInt8) : ∀ (k p : Nat) (x : Int), 0 < k → a.length < p + k → ∃ v, runes_Count.l9 a k p x = some v
 | 0, p, x, h0, hk => by omega
 | k + 1, p, x, _, hk => by
  have hd := decU_pos a p
  rw [runes_Count.l9]
  split
  · exact count_l a k _ _ (by omega) (by omega)
  · exact ⟨_, rfl⟩
theorem count_t {a : List UInt8} (h : a.length ≤ 9223372036854775807) : ∃ v, runes_Count a = some v := by
 rw [runes_Count, runesV_eq h, bS]
 split
 · exact ⟨_, rfl⟩
 · exact count_l a rounds 0 0 (by have := zS; omega) (by have := zS; omega)
theorem name_l (a : List UInt8) : ∀ (k p : Nat), 0 < k → a.length < p + k → ∃ v, runes_Name.l11 a k p = some v
 | 0, p, h0, hk => by omega
 | k + 1, p, _, hk => by
  have hd := decU_pos a p
  rw [runes_Name.l11]
  split
  · obtain ⟨v, e⟩ := name_l a k (p + (decU a p).2) (by omega) (by omega)
    rw [e]
    unfold bnd
    dsimp only
    repeat' split
    all_goals exact ⟨_, rfl⟩
  · exact ⟨_, rfl⟩
def nameV (a : List UInt8) : Bool := (runes_Name a).getD false
def nmOk (a : List UInt8) : Prop := a.length ≤ 140737488351232
theorem nameV_eq {a : List UInt8} (h : nmOk a) : runes_Name a = some (nameV a) := by
 unfold nmOk at h
 have : ∃ v, runes_Name a = some v := by
  obtain ⟨v, e⟩ := count_t (a := a) (by omega)
  rw [runes_Name, e, bS]
  obtain ⟨w, ew⟩ := name_l a rounds 0 (by have := zS; omega) (by have := zS; omega)
  rw [ew]
  unfold bnd
  dsimp only
  repeat' split
  all_goals exact ⟨_, rfl⟩
 obtain ⟨v, e⟩ := this
 unfold nameV; rw [e]; rfl
theorem zZ4 {m : List (List UInt8 × Bool)} {a : List UInt8} (h : nmOk a) : ∃ r, check_names_takes m a = some r := by
 rw [check_names_takes, nameV_eq h, bS]
 split <;> exact ⟨_, rfl⟩
def nmM (m : GMessage) : Prop := nmOk m.fName ∧ ∀ f ∈ m.fFields, nmOk f.fName
def nmE (e : GEnumeration) : Prop := nmOk e.fName ∧ ∀ v ∈ e.fValues, nmOk v.fName
def nmS (s : GSchema) : Prop := nmOk s.fName ∧ (∀ m ∈ s.fMessages, nmM m) ∧ (∀ e ∈ s.fEnums, nmE e) ∧ ∀ x ∈ s.fMethods, nmOk x.fName
theorem msg_l21 {s : GSchema} {r2 : Bool × List (List UInt8 × Bool)} : ∀ (l : List GField) (i : Int) (a : List (Int × Bool)) (b : List (List UInt8 × Bool)), (∀ f ∈ l, nmOk f.fName) → ∃ r, check_message.l21 s r2 l i a b = some r
 | [], i, a, b, _ => ⟨_, rfl⟩
 | f :: l, i, a, b, h => by
  obtain ⟨r, e⟩ := zZ4 (m := b) (h f (mS ..))
  rw [check_message.l21, e, bS]
  split
  · exact ⟨_, rfl⟩
  · unfold bnd
    dsimp only
    split
    · exact ⟨_, rfl⟩
    · split
      · exact ⟨_, rfl⟩
      · exact msg_l21 l _ _ _ fun g hg => h g (mO _ hg)
theorem msg_l12 {s : GSchema} {m : GMessage} {r2 : Bool × List (List UInt8 × Bool)} (hm : ∀ f ∈ m.fFields, nmOk f.fName) : ∀ (l : List Int) (i : Int) (a : List (Int × Bool)), ∃ r, check_message.l12 s m r2 l i a = some r
 | [], i, a => msg_l21 _ _ _ _ hm
 | n :: l, i, a => by
  rw [check_message.l12]
  unfold bnd
  dsimp only
  split
  · exact ⟨_, rfl⟩
  · exact msg_l12 hm l _ _
theorem msg_t {s : GSchema} {a : List (List UInt8 × Bool)} {m : GMessage} (hm : nmM m) : ∃ r, check_message s a m = some r := by
 obtain ⟨r, e⟩ := zZ4 (m := a) hm.1
 rw [check_message, e, bS]
 split
 · exact ⟨_, rfl⟩
 · split
   · exact ⟨_, rfl⟩
   · exact msg_l12 hm.2 _ _ _
theorem enum_l23 {r2 : Bool × List (List UInt8 × Bool)} : ∀ (l : List GNamed) (i : Int) (a : List (List UInt8 × Bool)) (b : List (Int × Bool)), (∀ f ∈ l, nmOk f.fName) → ∃ r, check_enum.l23 r2 l i a b = some r
 | [], i, a, b, _ => ⟨_, rfl⟩
 | f :: l, i, a, b, h => by
  obtain ⟨r, e⟩ := zZ4 (m := a) (h f (mS ..))
  rw [check_enum.l23, e, bS]
  split
  · exact ⟨_, rfl⟩
  · split
    · exact ⟨_, rfl⟩
    · exact enum_l23 l _ _ _ fun g hg => h g (mO _ hg)
theorem enum_l12 {x : GEnumeration} {r2 : Bool × List (List UInt8 × Bool)} (hx : ∀ v ∈ x.fValues, nmOk v.fName) : ∀ (l : List GNamed) (i : Int) (z : Bool), ∃ r, check_enum.l12 x r2 l i z = some r
 | [], i, z => by
  rw [check_enum.l12]
  split
  · exact ⟨_, rfl⟩
  · exact enum_l23 _ _ _ _ hx
 | v :: l, i, z => by rw [check_enum.l12]; exact enum_l12 hx l _ _
theorem enum_t {a : List (List UInt8 × Bool)} {x : GEnumeration} (hx : nmE x) : ∃ r, check_enum a x = some r := by
 obtain ⟨r, e⟩ := zZ4 (m := a) hx.1
 rw [check_enum, e, bS]
 split
 · exact ⟨_, rfl⟩
 · split
   · exact ⟨_, rfl⟩
   · exact enum_l12 hx.2 _ _ _
theorem chk_l29 {s : GSchema} : ∀ (l : List GMethod) (i : Int) (a : List (List UInt8 × Bool)), (∀ x ∈ l, nmOk x.fName) → ∃ r, check_Check.l29 s l i a = some r
 | [], i, a, _ => ⟨_, rfl⟩
 | x :: l, i, a, h => by
  obtain ⟨r, e⟩ := zZ4 (m := a) (h x (mS ..))
  rw [check_Check.l29]
  unfold bnd
  dsimp only
  rw [e, bS]
  split
  · exact ⟨_, rfl⟩
  · split
    · exact ⟨_, rfl⟩
    · exact chk_l29 l _ _ fun g hg => h g (mO _ hg)
theorem chk_l22 {s : GSchema} (hs : ∀ x ∈ s.fMethods, nmOk x.fName) : ∀ (l : List GEnumeration) (i : Int) (a : List (List UInt8 × Bool)), (∀ x ∈ l, nmE x) → ∃ r, check_Check.l22 s l i a = some r
 | [], i, a, _ => chk_l29 _ _ _ hs
 | x :: l, i, a, h => by
  obtain ⟨r, e⟩ := enum_t (a := a) (h x (mS ..))
  rw [check_Check.l22, e, bS]
  split
  · exact chk_l22 hs l _ _ fun g hg => h g (mO _ hg)
  · exact ⟨_, rfl⟩
theorem chk_l15 {s : GSchema} (hs : nmS s) : ∀ (l : List GMessage) (i : Int) (a : List (List UInt8 × Bool)), (∀ x ∈ l, nmM x) → ∃ r, check_Check.l15 s l i a = some r
 | [], i, a, _ => chk_l22 hs.2.2.2 _ _ _ hs.2.2.1
 | x :: l, i, a, h => by
  obtain ⟨r, e⟩ := msg_t (s := s) (a := a) (h x (mS ..))
  rw [check_Check.l15, e, bS]
  split
  · exact chk_l15 hs l _ _ fun g hg => h g (mO _ hg)
  · exact ⟨_, rfl⟩
def chkV (s : GSchema) : Int := (check_Check s).getD 0
theorem zx5 {s : GSchema} (hs : nmS s) : check_Check s = some (chkV s) := by
 have : ∃ r, check_Check s = some r := by
  rw [check_Check, nameV_eq hs.1, bS]
  split
  · exact ⟨_, rfl⟩
  · split
    · exact ⟨_, rfl⟩
    · split
      · exact ⟨_, rfl⟩
      · exact chk_l15 hs _ _ _ hs.2.1
 obtain ⟨v, e⟩ := this
 unfold chkV; rw [e]; rfl
end Go.Proofs.YtaddlmlpeghonaaDoor
end
section
set_option maxRecDepth 4000
namespace Go.Proofs.YtaddlmlpeghonaaDoor
open AM
inductive Shuf : List GRaw → List GRaw → Prop
 | refl (l : List GRaw) : Shuf l l
 | cons (a : GRaw) {l m : List GRaw} : Shuf l m → Shuf (a :: l) (a :: m)
 | swap {a b : GRaw} (h : a.fTag ≠ b.fTag) (l : List GRaw) : Shuf (a :: b :: l) (b :: a :: l)
 | trans {l m n : List GRaw} : Shuf l m → Shuf m n → Shuf l n
theorem shuf_move {r : GRaw} : ∀ {B : List GRaw}, (∀ b ∈ B, b.fTag ≠ r.fTag) → Shuf (B ++ [r]) (r :: B)
 | [], _ => .refl _
 | b :: B, h => .trans (.cons b (shuf_move fun x hx => h x (mO _ hx))) (.swap (h b (mS ..)) B)
theorem shuf_ins {r : GRaw} : ∀ {l : List GRaw}, l.Pairwise TagLe → Shuf (l ++ [r]) (insR r l)
 | [], _ => .refl _
 | x :: l, h => by
  rw [insR]
  rw [pC] at h
  split
  · rename_i hlt
    refine shuf_move fun b hb => ?_
    rcases mI.1 hb with rfl | hb
    · omega
    · have := h.1 b hb; unfold TagLe at this; omega
  · exact .cons x (shuf_ins h.2)
theorem Shuf.app {l m : List GRaw} (h : Shuf l m) (k : List GRaw) : Shuf (l ++ k) (m ++ k) := by
 induction h with
 | refl l => exact .refl _
 | cons a _ ih => exact .cons a ih
 | swap h l => exact .swap h _
 | trans _ _ h1 h2 => exact .trans h1 h2
theorem shuf_srtA : ∀ {l S : List GRaw}, S.Pairwise TagLe → Shuf (S ++ l) (srtA l S)
 | [], S, _ => by rw [srtA, aN]; exact .refl _
 | r :: l, S, h => by
  rw [srtA, show S ++ r :: l = (S ++ [r]) ++ l by rw [aA]; rfl]
  exact .trans ((shuf_ins h).app l) (shuf_srtA (zo2 h))
theorem shuf_srt (l : List GRaw) : Shuf l (srt l) := shuf_srtA (S := []) List.Pairwise.nil
theorem zs5 {m : GMessage} {one : GType → GRaw → GTree × Int} : ∀ {l : List GRaw} {es : List GEntry} {rest rest' : List GRaw}, (∀ k, srt (rest ++ k) = srt (rest' ++ k)) → fldD m one l es rest = fldD m one l es rest'
 | [], es, rest, rest', h => by
  have := h []
  rw [aN, aN] at this
  rw [fldD, fldD, this]
 | r :: l, es, rest, rest', h => by
  rw [fldD, fldD]
  have h2 := zs5 (m := m) (one := one) (l := l) (es := es) (rest := rest ++ [r]) (rest' := rest' ++ [r]) fun k => by rw [aA, aA]; exact h _
  have h1 := zs5 (m := m) (one := one) (l := l) (es := putE r.fTag ((check_Field m r.fTag).1.fLabel = 3) (one (check_Field m r.fTag).1.fType r).1 es) h
  rw [h1, h2]
theorem putE_comm {s t : Int} (hst : s ≠ t) {p q : Prop} [Decidable p] [Decidable q] {x y : GTree} : ∀ {es : List GEntry}, putE s p x (putE t q y es) = putE t q y (putE s p x es)
 | [] => by
  by_cases h : s < t
  · simp only [reduceIte, putE, zt1, (show ¬ t < s by omega), (show ¬ t = s by omega), h]
  · simp only [reduceIte, putE, zt1, (show t < s by omega), (show ¬ s < t by omega), hst]
 | e :: es => by
  have ih := putE_comm hst (p := p) (q := q) (x := x) (y := y) (es := es)
  rcases Int.lt_or_gt_of_ne hst with h | h
  · by_cases a : e.fTag < s
    · simp only [reduceIte, putE, a, (show e.fTag < t by omega), ih]
    · by_cases a' : e.fTag = s
      · simp only [reduceIte, putE, a, a', h, zt1, (show ¬ s < s by omega)]
      · by_cases b : e.fTag < t
        · simp only [reduceIte, putE, a, a', b, zt1, h]
        · by_cases b' : e.fTag = t
          · simp only [reduceIte, putE, b', (show ¬ t < s by omega), (show ¬ t = s by omega), (show ¬ t < t by omega), zt1, h]
          · simp only [reduceIte, putE, a, a', b, b', zt1, h, (show ¬ t < s by omega), (show ¬ t = s by omega)]
  · have h' : t < s := h
    by_cases a : e.fTag < t
    · simp only [reduceIte, putE, a, (show e.fTag < s by omega), ih]
    · by_cases a' : e.fTag = t
      · simp only [reduceIte, putE, a, a', h', zt1, (show ¬ t < t by omega)]
      · by_cases b : e.fTag < s
        · simp only [reduceIte, putE, a, a', b, zt1, h']
        · by_cases b' : e.fTag = s
          · simp only [reduceIte, putE, b', (show ¬ s < t by omega), hst, (show ¬ s < s by omega), zt1, h']
          · simp only [reduceIte, putE, a, a', b, b', zt1, h', (show ¬ s < t by omega), hst]
theorem zm4 {s t : Int} (hst : s ≠ t) {p q : Prop} [Decidable p] [Decidable q] {y : GTree} : ∀ {es : List GEntry}, putN s p (putE t q y es) = putN s p es
 | [] => by
  by_cases h : s < t
  · simp only [reduceIte, putE, putN, zt1, (show ¬ t < s by omega), (show ¬ t = s by omega)]
  · simp only [reduceIte, putE, putN, zt1, (show t < s by omega)]
 | e :: es => by
  have ih := zm4 hst (p := p) (q := q) (y := y) (es := es)
  by_cases a : e.fTag < t
  · simp only [reduceIte, putE, putN, a, ih]
  · by_cases a' : e.fTag = t
    · by_cases b : t < s
      · simp only [reduceIte, putE, putN, a, a', zt1, b, (show ¬ t < t by omega)]
      · simp only [reduceIte, putE, putN, a, a', zt1, b, (show ¬ t < t by omega), (show ¬ t = s by omega)]
    · by_cases b : t < s
      · simp only [reduceIte, putE, putN, a, a', zt1, b]
      · simp only [reduceIte, putE, putN, a, a', zt1, b, (show ¬ t = s by omega), (show ¬ e.fTag < s by omega), (show ¬ e.fTag = s by omega)]
theorem fldD_swap {m : GMessage} {one : GType → GRaw → GTree × Int} {a b : GRaw} (hab : a.fTag ≠ b.fTag) {l : List GRaw} {es : List GEntry} {rest : List GRaw} (h0 : (fldD m one (a :: b :: l) es rest).2 = 0) : fldD m one (b :: a :: l) es rest = fldD m one (a :: b :: l) es rest := by
 have h4 : ¬ ((zm2, (4 : Int)).2 = 0) := by decide
 have nab := fun (x : GTree) (es : List GEntry) => zm4 (Ne.symm hab) (p := (check_Field m b.fTag).1.fLabel = 3) (q := (check_Field m a.fTag).1.fLabel = 3) (y := x) (es := es)
 have nba := fun (x : GTree) (es : List GEntry) => zm4 hab (p := (check_Field m a.fTag).1.fLabel = 3) (q := (check_Field m b.fTag).1.fLabel = 3) (y := x) (es := es)
 simp only [fldD, nab, nba] at h0 ⊢
 by_cases ka : (check_Field m a.fTag).2 = true
 · by_cases oa : (one (check_Field m a.fTag).1.fType a).2 = 0
   · by_cases na : putN a.fTag ((check_Field m a.fTag).1.fLabel = 3) es ≤ 64
     · by_cases kb : (check_Field m b.fTag).2 = true
       · by_cases ob : (one (check_Field m b.fTag).1.fType b).2 = 0
         · by_cases nb : putN b.fTag ((check_Field m b.fTag).1.fLabel = 3) es ≤ 64
           · simp only [ka, oa, na, kb, ob, nb, reduceIte]
             rw [putE_comm hab]
           · simp only [ka, oa, na, kb, ob, nb, reduceIte] at h0; exact absurd h0 h4
         · simp only [ka, oa, na, kb, ob, reduceIte] at h0
       · simp only [ka, oa, na, kb, reduceIte, Bool.false_eq_true]
     · simp only [ka, oa, na, reduceIte] at h0; exact absurd h0 h4
   · simp only [ka, oa, reduceIte] at h0
 · by_cases kb : (check_Field m b.fTag).2 = true
   · by_cases ob : (one (check_Field m b.fTag).1.fType b).2 = 0
     · by_cases nb : putN b.fTag ((check_Field m b.fTag).1.fLabel = 3) es ≤ 64
       · simp only [ka, kb, ob, nb, reduceIte, Bool.false_eq_true]
       · simp only [ka, kb, ob, nb, reduceIte, Bool.false_eq_true] at h0; exact absurd h0 h4
     · simp only [ka, kb, ob, reduceIte, Bool.false_eq_true] at h0
   · simp only [ka, kb, reduceIte, Bool.false_eq_true]
     refine zs5 fun k => srt_of (zi4 _) fun t => ?_
     rw [srt_filter]
     simp only [List.filter_append, aA]
     congr 1
     rw [← aA, ← aA]
     congr 1
     simp only [List.filter_cons, List.filter_nil, decide_eq_true_eq]
     by_cases h1 : a.fTag = t
     · rw [if_pos h1, if_neg (show ¬ b.fTag = t by omega)]; rfl
     · rw [if_neg h1]; simp
theorem fldD_shuf {m : GMessage} {one : GType → GRaw → GTree × Int} {l k : List GRaw} (h : Shuf l k) : ∀ {es : List GEntry} {rest : List GRaw}, (fldD m one l es rest).2 = 0 → fldD m one k es rest = fldD m one l es rest := by
 induction h with
 | refl l => intros; rfl
 | cons a _ ih =>
  intro es rest h0
  simp only [fldD] at h0 ⊢
  by_cases ka : (check_Field m a.fTag).2 = true
  · rw [if_pos ka] at h0 ⊢
    rw [if_pos ka]
    by_cases oa : (one (check_Field m a.fTag).1.fType a).2 = 0
    · rw [if_pos oa] at h0 ⊢
      rw [if_pos oa]
      by_cases na : putN a.fTag ((check_Field m a.fTag).1.fLabel = 3) es ≤ 64
      · rw [if_pos na] at h0 ⊢
        rw [if_pos na]; exact ih h0
      · rw [if_neg na, if_neg na]
    · rw [if_neg oa, if_neg oa]
  · rw [if_neg ka] at h0 ⊢
    rw [if_neg ka]; exact ih h0
 | swap h l => intro es rest h0; exact fldD_swap h h0
 | trans _ _ h1 h2 =>
  intro es rest h0
  have e := h1 h0
  rw [h2 (by rw [e]; exact h0), e]
end Go.Proofs.YtaddlmlpeghonaaDoor
end
section
set_option maxRecDepth 4000
namespace Go.Proofs.YtaddlmlpeghonaaDoor
open AM
theorem getD_of {l : List GRaw} (h : ∀ r ∈ l, zs2 r) (hb : (zk1 l).length ≤ 4096) : getD (zk1 l) = (l, 0) := by
 unfold getD; rw [wire_Get_ok h hb]; rfl
def okV (f : GMessage → GTree → Prop) (s : GSchema) (y : GType) (x : GTree) : Prop :=
 if y.fKind = 7 then x.fKind = 3 ∧ f (msgOf s y.fName) x
 else if y.fKind = 4 ∨ y.fKind = 5 then x = ⟨2, 0, x.fS, [], []⟩ ∧ x.fS.length ≤ 4096 ∧ (y.fKind = 4 → zd5 x.fS = true)
 else x = ⟨1, x.fN, [], [], []⟩ ∧ In64 x.fN ∧ (y.fKind = 3 ∨ y.fKind = 6 → valid_Number y x.fN = true)
def okN (f : GMessage → GTree → Prop) (s : GSchema) (m : GMessage) (e : GEntry) : Prop :=
 (1 ≤ e.fTag ∧ e.fTag ≤ 500) ∧ (check_Field m e.fTag).2 = true ∧ (1 ≤ e.fTrees.length ∧ e.fTrees.length ≤ 64) ∧ ((check_Field m e.fTag).1.fLabel ≠ 3 → e.fTrees.length = 1) ∧ ∀ x ∈ e.fTrees, okV f s (check_Field m e.fTag).1.fType x
def okT (s : GSchema) : Nat → GMessage → GTree → Prop
 | 0, _, _ => False
 | d + 1, m, t => t.fKind = 3 ∧ t.fN = 0 ∧ t.fS = [] ∧ t.fEntries.Pairwise zP2 ∧ (∀ e ∈ t.fEntries, okN (okT s d) s m e ∧ isZ m e = false) ∧ t.fRest.Pairwise TagLe ∧ t.fRest.length ≤ 4096 ∧ ∀ r ∈ t.fRest, zs2 r ∧ (check_Field m r.fTag).2 ≠ true
def kindT (y : GType) : Int := if y.fKind = 7 then 3 else if y.fKind = 4 ∨ y.fKind = 5 then 2 else 1
theorem gt_kind (k n : Int) (s : List UInt8) (e : List GEntry) (r : List GRaw) : (GTree.mk k n s e r).fKind = k := rfl
theorem gt_s (k n : Int) (s : List UInt8) (e : List GEntry) (r : List GRaw) : (GTree.mk k n s e r).fS = s := rfl
theorem gt_es (k n : Int) (s : List UInt8) (e : List GEntry) (r : List GRaw) : (GTree.mk k n s e r).fEntries = e := rfl
theorem gt_rest (k n : Int) (s : List UInt8) (e : List GEntry) (r : List GRaw) : (GTree.mk k n s e r).fRest = r := rfl
theorem gt_eta (t : GTree) : t = ⟨t.fKind, t.fN, t.fS, t.fEntries, t.fRest⟩ := by cases t; rfl
theorem okV_kind {f : GMessage → GTree → Prop} {s : GSchema} {y : GType} {x : GTree} (h : okV f s y x) : x.fKind = kindT y := by
 unfold okV at h; unfold kindT
 by_cases h7 : y.fKind = 7
 · rw [if_pos h7] at h ⊢; exact h.1
 · rw [if_neg h7] at h ⊢
   by_cases h4 : y.fKind = 4 ∨ y.fKind = 5
   · rw [if_pos h4] at h ⊢; rw [h.1]; rfl
   · rw [if_neg h4] at h ⊢; rw [h.1]; rfl
theorem okV_leaf {f : GMessage → GTree → Prop} {s : GSchema} {y : GType} {x : GTree} (h : okV f s y x) (h7 : y.fKind ≠ 7) : x.fEntries = [] ∧ x.fRest = [] ∧ In64 x.fN ∧ leafB x = true ∧ x.fKind ≠ 3 := by
 unfold okV at h
 rw [if_neg h7] at h
 split at h
 · rw [h.1]
   exact ⟨rfl, rfl, in0, rfl, by rw [gt_kind]; decide⟩
 · refine ⟨by rw [h.1]; rfl, by rw [h.1]; rfl, h.2.1, ?_, by rw [h.1, gt_kind]; decide⟩
   rw [h.1]; rfl
theorem kids_nil {x : GTree} (h : x.fEntries = []) : kids x = [] := by unfold kids; rw [h]; rfl
theorem szT_leaf {x : GTree} (h1 : x.fEntries = []) (h2 : x.fRest = []) (h3 : In64 x.fN) : ∀ d, szT d x
 | 0 => ⟨h3, by rw [h2]; exact Nat.zero_le _, by rw [h2]; intro r hr; cases hr⟩
 | d + 1 => ⟨⟨h3, by rw [h2]; exact Nat.zero_le _, by rw [h2]; intro r hr; cases hr⟩, by rw [kids_nil h1]; intro x hx; cases hx⟩
theorem okT_sz {s : GSchema} : ∀ (d n : Nat) (m : GMessage) (t : GTree), d ≤ n → okT s d m t → szT n t
 | 0, _, _, _, _, h => h.elim
 | d + 1, 0, _, _, h, _ => absurd h (by omega)
 | d + 1, n + 1, m, t, hn, h => by
  obtain ⟨_, h0, _, _, he, _, hl, hr⟩ := h
  refine ⟨⟨by rw [h0]; exact in0, by omega, fun r hm => (hr r hm).1.2⟩, fun x hx => ?_⟩
  obtain ⟨e, hm, hxe⟩ := List.mem_flatMap.1 hx
  have hv := (he e hm).1.2.2.2.2 x hxe
  by_cases h7 : (check_Field m e.fTag).1.fType.fKind = 7
  · unfold okV at hv; rw [if_pos h7] at hv
    exact okT_sz d n _ x (by omega) hv.2
  · obtain ⟨a, b, c, _, _⟩ := okV_leaf hv h7
    exact szT_leaf a b c n
theorem leafB_right {x : GTree} (h : leafB x = true) (h3 : x.fKind ≠ 3) : ∀ d, zC1 d x = true
 | 0 => h
 | d + 1 => by rw [zC1, if_neg h3]; exact h
theorem okT_ents {d : Nat} {s : GSchema} {m : GMessage} {f : GTree → Bool} (hf : ∀ y x, okV (okT s d) s y x → f x = true) : ∀ {l : List GEntry} {last : Int}, l.Pairwise zP2 → (∀ e ∈ l, last < e.fTag) → (∀ e ∈ l, okN (okT s d) s m e) → entB f last l = true
 | [], _, _, _, _ => rfl
 | e :: l, last, hs, hlt, he => by
  rw [pC] at hs
  obtain ⟨⟨h1, h2⟩, h3, h4, h5, h6⟩ := he e (mS ..)
  rw [entB, okT_ents hf hs.2 (fun a ha => hs.1 a ha) fun a ha => he a (mO _ ha), Bool.and_true, Bool.and_eq_true, decide_eq_true_eq]
  refine ⟨⟨hlt e (mS ..), h2, h4.1, h4.2⟩, List.all_eq_true.2 fun x hx => ?_⟩
  rw [Bool.and_eq_true, decide_eq_true_eq]
  refine ⟨?_, hf _ x (h6 x hx)⟩
  rw [okV_kind (h6 x hx)]
  cases ht : e.fTrees with
  | nil => rw [ht] at hx; cases hx
  | cons a l => rw [List.headD_cons]; exact (okV_kind (h6 a (by rw [ht]; exact mS ..))).symm
theorem zo5 {s : GSchema} : ∀ (d n : Nat) (m : GMessage) (t : GTree), d ≤ n → okT s d m t → zC1 n t = true
 | 0, _, _, _, _, h => h.elim
 | d + 1, 0, _, _, h, _ => absurd h (by omega)
 | d + 1, n + 1, m, t, hn, h => by
  obtain ⟨h3, h0, hS, hs, he, hrs, _, hr⟩ := h
  rw [zC1, if_pos h3]
  have e1 : entB (zC1 n) 0 t.fEntries = true := by
   refine okT_ents (m := m) (d := d) (s := s) ?_ hs (fun e hm => by have := (he e hm).1.1; omega) fun e hm => (he e hm).1
   intro y x hv
   by_cases h7 : y.fKind = 7
   · unfold okV at hv; rw [if_pos h7] at hv
     exact zo5 d n _ x (by omega) hv.2
   · obtain ⟨_, _, _, d1, e1⟩ := okV_leaf hv h7
     exact leafB_right d1 e1 n
  have e2 : restB t = true := by
   unfold restB
   rw [Bool.and_eq_true]
   refine ⟨List.all_eq_true.2 fun r hm => ?_, risB_iff.2 hrs⟩
   obtain ⟨⟨a, _⟩, b⟩ := hr r hm
   rw [a, Bool.true_and, Bool.not_eq_true', List.any_eq_false]
   intro e hme hc
   rw [decide_eq_true_eq] at hc
   exact b (by rw [← hc]; exact (he e hme).1.2.1)
  rw [e1, e2, decide_eq_true h0, decide_eq_true hS]; rfl
theorem okT_dep {s : GSchema} : ∀ (d n : Nat) (m : GMessage) (t : GTree), okT s d m t → depT n t ≤ d
 | 0, _, _, _, h => h.elim
 | d + 1, 0, _, _, _ => Nat.zero_le _
 | d + 1, n + 1, m, t, h => by
  rw [depT]
  split
  · refine Nat.succ_le_succ (maxD_le (Nat.zero_le _) fun x hx => ?_)
    obtain ⟨e, hm, hxe⟩ := List.mem_flatMap.1 hx
    have hv := (h.2.2.2.2.1 e hm).1.2.2.2.2 x hxe
    by_cases h7 : (check_Field m e.fTag).1.fType.fKind = 7
    · unfold okV at hv; rw [if_pos h7] at hv
      exact okT_dep d n _ x hv.2
    · obtain ⟨_, _, _, _, e1⟩ := okV_leaf hv h7
      cases n with
      | zero => exact Nat.zero_le _
      | succ n => rw [depT, if_neg e1]; exact Nat.zero_le _
  · exact Nat.zero_le _
theorem okT_check {s : GSchema} {d : Nat} {m : GMessage} {t : GTree} (hd : d ≤ 10) (h : okT s d m t) : zO2 t = true := by
 have := okT_dep d 101 m t h
 rw [zO2, decide_eq_true (by omega), Bool.true_and]
 exact zo5 d 10 m t hd h
theorem gr_wire (a b c : Int) (d : List UInt8) : (GRaw.mk a b c d).fWire = b := rfl
theorem gr_n (a b c : Int) (d : List UInt8) : (GRaw.mk a b c d).fN = c := rfl
theorem gr_b (a b c : Int) (d : List UInt8) : (GRaw.mk a b c d).fB = d := rfl
theorem rawT_tag {enc : GTree → Option (List UInt8)} {tag : Int} {x : GTree} {r : GRaw} (h : rawT enc tag x = some r) : r.fTag = tag := by
 unfold rawT at h
 split at h
 · cases h; rfl
 · split at h
   · split at h
     · cases h
     · cases h; rfl
   · obtain ⟨b, hb, h⟩ := bind_some h
     cases h; rfl
theorem zU3 {msg : GMessage → List UInt8 → GTree × Int} {s : GSchema} {y : GType} {r : GRaw} (h : (y.fKind = 4 ∨ y.fKind = 5 ∨ y.fKind = 7) ∧ r.fWire = 1 ∨ ¬ (y.fKind = 4 ∨ y.fKind = 5 ∨ y.fKind = 7) ∧ r.fWire = 0) :
 oneD msg s y r = (if y.fKind = 3 ∨ y.fKind = 6 then (if valid_Number y r.fN = true then (⟨1, r.fN, [], [], []⟩, 0) else (zm2, 11))
 else if y.fKind = 4 then (if zd5 r.fB = true then (⟨2, 0, r.fB, [], []⟩, 0) else (zm2, 9))
 else if y.fKind = 7 then msg (msgOf s y.fName) r.fB
 else (if r.fWire = 1 then ⟨2, 0, r.fB, [], []⟩ else ⟨1, r.fN, [], [], []⟩, 0)) := by
 unfold oneD
 refine if_pos ?_
 rcases h with ⟨h, h'⟩ | ⟨h, h'⟩
 · rw [if_pos h]; exact h'
 · rw [if_neg h]; exact h'
theorem oneD_back {s : GSchema} {d : Nat} {y : GType} {x : GTree} {tag : Int} {q : GRaw} (ih : ∀ m t c, okT s d m t → encT d t = some c → decM s d m c = (t, 0)) (hv : okV (okT s d) s y x) (hq : rawT (encT d) tag x = some q) : oneD (decM s d) s y q = (x, 0) := by
 have hk := okV_kind hv
 unfold okV at hv; unfold rawT at hq; unfold kindT at hk
 by_cases h7 : y.fKind = 7
 · rw [if_pos h7] at hv hk
   rw [if_neg (by omega), if_neg (by omega)] at hq
   obtain ⟨c, hc, hq⟩ := bind_some hq
   cases hq
   rw [zU3 (Or.inl ⟨Or.inr (Or.inr h7), rfl⟩), if_neg (by omega), if_neg (by omega), if_pos h7, gr_b]
   exact ih _ _ _ hv.2 hc
 · rw [if_neg h7] at hv hk
   by_cases h4 : y.fKind = 4 ∨ y.fKind = 5
   · rw [if_pos h4] at hv hk
     rw [if_neg (by omega), if_pos hk, if_neg (by omega)] at hq
     cases hq
     rw [zU3 (Or.inl ⟨by rcases h4 with h | h; exact Or.inl h; exact Or.inr (Or.inl h), rfl⟩), if_neg (by omega), gr_b]
     by_cases h44 : y.fKind = 4
     · rw [if_pos h44, if_pos (hv.2.2 h44), ← hv.1]
     · rw [if_neg h44, if_neg h7, gr_wire, if_pos rfl, ← hv.1]
   · rw [if_neg h4] at hv hk
     rw [if_pos hk] at hq
     cases hq
     rw [zU3 (Or.inr ⟨by omega, rfl⟩)]
     by_cases h3 : y.fKind = 3 ∨ y.fKind = 6
     · rw [if_pos h3, gr_n, if_pos (hv.2.2 h3), ← hv.1]
     · rw [if_neg h3, if_neg (by omega), if_neg h7, gr_wire, if_neg (by decide), gr_n, ← hv.1]
theorem fldD_unk {m : GMessage} {one : GType → GRaw → GTree × Int} {B : List GRaw} {es : List GEntry} : ∀ {A rest : List GRaw}, (∀ r ∈ A, (check_Field m r.fTag).2 ≠ true) → fldD m one (A ++ B) es rest = fldD m one B es (rest ++ A)
 | [], rest, _ => by rw [aN]; rfl
 | r :: A, rest, h => by
  rw [cA, fldD, if_neg (h r (mS ..)), fldD_unk fun x hx => h x (mO _ hx), aA]; rfl
theorem fldD_more {m : GMessage} {one : GType → GRaw → GTree × Int} {enc : GTree → Option (List UInt8)} {tag : Int} {A : List GEntry} {M rest : List GRaw} (hk : (check_Field m tag).2 = true) (h3 : (check_Field m tag).1.fLabel = 3) (hA : ∀ a ∈ A, a.fTag < tag) : ∀ {l : List GTree} {ts : List GTree} {L : List GRaw}, ts.length + l.length ≤ 64 → (∀ x ∈ l, ∀ q, rawT enc tag x = some q → one (check_Field m tag).1.fType q = (x, 0)) → rawL enc tag l = some L → fldD m one (L ++ M) (A ++ [⟨tag, ts⟩]) rest = fldD m one M (A ++ [⟨tag, ts ++ l⟩]) rest
 | [], ts, L, _, _, h => by cases h; rw [aN]; rfl
 | x :: l, ts, L, hl, ho, h => by
  obtain ⟨q, hq, h⟩ := bind_some h
  obtain ⟨L', hL, h⟩ := bind_some h
  cases h
  rw [lC] at hl
  have hn : ∀ rep : Prop, [Decidable rep] → rep → putN tag rep (A ++ [⟨tag, ts⟩]) = ts.length + 1 := by
   intro rep _ hr
   rw [zF4 hA, putN, zt1, if_neg (by omega), if_pos rfl, if_pos hr, zh1]
  have he : ∀ rep : Prop, [Decidable rep] → rep → putE tag rep x (A ++ [⟨tag, ts⟩]) = A ++ [⟨tag, ts ++ [x]⟩] := by
   intro rep _ hr
   rw [zG4 hA, putE, zt1, if_neg (by omega), if_pos rfl, if_pos hr, zh1]
  rw [cA, fldD, rawT_tag hq, if_pos hk, ho x (mS ..) q hq, if_pos rfl, if_pos (by rw [hn _ h3]; omega), he _ h3, fldD_more hk h3 hA (by rw [lP, List.length_singleton]; omega) (fun z hz => ho z (mO _ hz)) hL, aA]; rfl
theorem fldD_entry {m : GMessage} {one : GType → GRaw → GTree × Int} {enc : GTree → Option (List UInt8)} {e : GEntry} {A : List GEntry} {M rest L : List GRaw} (hk : (check_Field m e.fTag).2 = true) (h1 : 1 ≤ e.fTrees.length) (h64 : e.fTrees.length ≤ 64) (hl : (check_Field m e.fTag).1.fLabel ≠ 3 → e.fTrees.length = 1) (hA : ∀ a ∈ A, a.fTag < e.fTag) (ho : ∀ x ∈ e.fTrees, ∀ q, rawT enc e.fTag x = some q → one (check_Field m e.fTag).1.fType q = (x, 0)) (h : rawL enc e.fTag e.fTrees = some L) : fldD m one (L ++ M) A rest = fldD m one M (A ++ [e]) rest := by
 obtain ⟨tag, ts⟩ := e
 rw [zt1] at *
 rw [zh1] at *
 cases ts with
 | nil => exact absurd h1 (by decide)
 | cons x l =>
  obtain ⟨q, hq, h⟩ := bind_some h
  obtain ⟨L', hL, h⟩ := bind_some h
  cases h
  have hn : ∀ rep : Prop, [Decidable rep] → putN tag rep A = 1 := by
   intro rep _
   have := zF4 (rep := rep) (B := []) hA
   rw [aN] at this
   rw [this]; rfl
  have he : ∀ rep : Prop, [Decidable rep] → putE tag rep x A = A ++ [⟨tag, [x]⟩] := by
   intro rep _
   have := zG4 (rep := rep) (x := x) (B := []) hA
   rw [aN] at this
   rw [this]; rfl
  rw [cA, fldD, rawT_tag hq, if_pos hk, ho x (mS ..) q hq, if_pos rfl, if_pos (by rw [hn]; decide), he]
  cases l with
  | nil => cases hL; rfl
  | cons y l =>
   have h3 : (check_Field m tag).1.fLabel = 3 := by
    by_cases h3 : (check_Field m tag).1.fLabel = 3
    · exact h3
    · have := hl h3; rw [lC, lC] at this; omega
   have := fldD_more (m := m) (one := one) (enc := enc) (tag := tag) (A := A) (M := M) (rest := rest) hk h3 hA (l := y :: l) (ts := [x]) (L := L') (by rw [lC] at h64; rw [List.length_singleton]; omega) (fun z hz => ho z (mO _ hz)) hL
   exact this
theorem fldD_ents {d : Nat} {s : GSchema} {m : GMessage} {rest : List GRaw} (ih : ∀ m t c, okT s d m t → encT d t = some c → decM s d m c = (t, 0)) : ∀ {B A : List GEntry} {L : List GRaw}, (A ++ B).Pairwise zP2 → (∀ e ∈ B, okN (okT s d) s m e) → rawE (encT d) B = some L → fldD m (oneD (decM s d) s) L A rest = (⟨3, 0, [], zdel m (A ++ B), srt rest⟩, 0)
 | [], A, L, _, _, h => by cases h; rw [fldD, aN]
 | e :: B, A, L, hs, he, h => by
  obtain ⟨a, ha, h⟩ := bind_some h
  obtain ⟨L', hL, h⟩ := bind_some h
  cases h
  obtain ⟨_, h2, h3, h4, h5⟩ := he e (mS ..)
  rw [fldD_entry (enc := encT d) h2 h3.1 h3.2 h4 (fun x hx => (List.pairwise_append.1 hs).2.2 x hx e (mS ..)) (fun x hx q hq => oneD_back ih (h5 x hx) hq) ha, fldD_ents ih (A := A ++ [e]) (by rw [aA]; exact hs) (fun x hx => he x (mO _ hx)) hL, aA]; rfl
theorem zdel_id {m : GMessage} {es : List GEntry} (h : ∀ e ∈ es, isZ m e = false) : zdel m es = es := by
 unfold zdel
 rw [List.filter_eq_self]
 intro e he
 rw [h e he]; rfl
theorem decM_back {s : GSchema} : ∀ (d : Nat) (m : GMessage) (t : GTree) (c : List UInt8), okT s d m t → encT d t = some c → decM s d m c = (t, 0)
 | 0, _, _, _, h, _ => h.elim
 | d + 1, m, t, c, hok, h => by
  have hr := zo5 (d + 1) (d + 1) m t (nR _) hok
  have hz := okT_sz (d + 1) (d + 1) m t (nR _) hok
  obtain ⟨h3, h0, hS, hs, he, hrs, hl, hrest⟩ := hok
  rw [encT] at h
  obtain ⟨L, hL, h⟩ := bind_some h
  obtain ⟨hc, hlen⟩ := putB_some h
  have hg := getD_of (raws_ok hr h3 hz hL) (by rw [← hc]; exact hlen)
  have key : fldD m (oneD (decM s d) s) (t.fRest ++ L) [] [] = (t, 0) := by
   rw [fldD_unk fun r hm => (hrest r hm).2, fldD_ents (decM_back d) (A := []) (B := t.fEntries) hs (fun e hm => (he e hm).1) hL, nA, nA, zdel_id (es := t.fEntries) fun e hm => (he e hm).2, srt_id hrs, ← h3, ← h0, ← hS, ← gt_eta]
  rw [decM, hc, hg, if_pos rfl, fldD_shuf (shuf_srt _) (by rw [key]), key]
end Go.Proofs.YtaddlmlpeghonaaDoor
end
section
set_option maxRecDepth 4000
namespace Go.Proofs.YtaddlmlpeghonaaDoor
open AM
theorem insR_bytes (r : GRaw) : ∀ l : List GRaw, (zk1 (insR r l)).length = (rawB r).length + (zk1 l).length
 | [] => by rw [insR, zd1, lP]
 | x :: l => by
  rw [insR]; split
  · rw [zd1, lP]
  · rw [zd1, lP, insR_bytes r l, zd1, lP]; omega
theorem srtA_bytes : ∀ l S : List GRaw, (zk1 (srtA l S)).length = (zk1 S).length + (zk1 l).length
 | [], S => rfl
 | r :: l, S => by rw [srtA, srtA_bytes, insR_bytes, zd1, lP]; omega
theorem srt_bytes (l : List GRaw) : (zk1 (srt l)).length = (zk1 l).length := by rw [srt, srtA_bytes]; exact nZ _
theorem vb_mono {a b : Nat} (h : a ≤ b) : (vb a).length ≤ (vb b).length := by
 induction b using Nat.strongRecOn generalizing a with
 | ind b ih =>
  by_cases ha : a < 128
  · rw [vb_lt ha]; exact vb_pos b
  · rw [vb_ge ha, vb_ge (n := b) (by omega), lC, lC]
    exact Nat.succ_le_succ (ih (b / 128) (by omega) (Nat.div_le_div_right h))
theorem rawL_app {enc : GTree → Option (List UInt8)} {tag : Int} {x : GTree} {q : GRaw} (hq : rawT enc tag x = some q) : ∀ {l : List GTree} {L : List GRaw}, rawL enc tag l = some L → rawL enc tag (l ++ [x]) = some (L ++ [q])
 | [], L, h => by
  cases h
  rw [nA, rawL, hq]; rfl
 | y :: l, L, h => by
  obtain ⟨r, hr, h⟩ := bind_some h
  obtain ⟨L', hL, h⟩ := bind_some h
  cases h
  rw [cA, rawL, hr, bS, rawL_app hq hL]; rfl
theorem rawE_put {enc : GTree → Option (List UInt8)} {t : Int} {rep : Prop} [Decidable rep] {x : GTree} {q : GRaw} (hq : rawT enc t x = some q) : ∀ {es : List GEntry} {L : List GRaw}, rawE enc es = some L → ∃ L', rawE enc (putE t rep x es) = some L' ∧ (zk1 L').length ≤ (zk1 L).length + (rawB q).length
 | [], L, h => by
  cases h
  refine ⟨[q], ?_, ?_⟩
  · rw [putE, rawE, zt1, zh1, rawL, hq]; rfl
  · rw [zd1, lP]; omega
 | e :: es, L, h => by
  obtain ⟨a, ha, h⟩ := bind_some h
  obtain ⟨m, hm, h⟩ := bind_some h
  cases h
  rw [putE]
  split
  · obtain ⟨L', h1, h2⟩ := rawE_put (rep := rep) hq hm
    refine ⟨a ++ L', ?_, ?_⟩
    · rw [rawE, ha, bS, h1]; rfl
    · rw [zY1, zY1, lP, lP]; omega
  · split
    · rename_i heq
      rw [heq] at ha
      by_cases hr : rep
      · refine ⟨(a ++ [q]) ++ m, ?_, ?_⟩
        · rw [rawE, zt1, zh1, if_pos hr, rawL_app hq ha, bS, hm]; rfl
        · simp only [zY1, zd1, lP]; show _ + (_ + 0) + _ ≤ _; omega
      · refine ⟨[q] ++ m, ?_, ?_⟩
        · rw [rawE, zt1, zh1, if_neg hr, nA, rawL, hq, bS]
          rw [rawL, bS, bS, hm]; rfl
        · simp only [zY1, zd1, lP]; show _ + 0 + _ ≤ _; omega
    · refine ⟨q :: (a ++ m), ?_, ?_⟩
      · rw [rawE, zt1, zh1, rawL, hq, bS, rawL, bS, bS, rawE, ha, bS, hm]; rfl
      · rw [zd1, lP]; omega
theorem zj5 {enc : GTree → Option (List UInt8)} {p : GEntry → Bool} : ∀ {es : List GEntry} {L : List GRaw}, rawE enc es = some L → ∃ L', rawE enc (es.filter p) = some L' ∧ (zk1 L').length ≤ (zk1 L).length
 | [], L, h => ⟨L, h, nR _⟩
 | e :: es, L, h => by
  obtain ⟨a, ha, h⟩ := bind_some h
  obtain ⟨m, hm, h⟩ := bind_some h
  cases h
  obtain ⟨L', h1, h2⟩ := zj5 (p := p) hm
  rw [List.filter_cons]
  split
  · refine ⟨a ++ L', ?_, ?_⟩
    · rw [rawE, ha, bS, h1]; rfl
    · rw [zY1, zY1, lP, lP]; omega
  · exact ⟨L', h1, by rw [zY1, lP]; omega⟩
theorem putE_ok {P : Int → GTree → Prop} {t : Int} {rep : Prop} [Decidable rep] {x : GTree} {e : GEntry} (hx : P t x) : ∀ {es : List GEntry}, (∀ a ∈ es, ∀ z ∈ a.fTrees, P a.fTag z) → e ∈ putE t rep x es → e ∈ es ∨ (e.fTag = t ∧ (¬ rep → e.fTrees.length = 1) ∧ 1 ≤ e.fTrees.length ∧ e.fTrees.length = putN t rep es ∧ ∀ z ∈ e.fTrees, P t z)
 | [], _, h => by
  rw [putE, List.mem_singleton] at h; subst h
  refine Or.inr ⟨rfl, fun _ => rfl, nR _, rfl, fun z hz => ?_⟩
  rw [zh1, List.mem_singleton] at hz; rw [hz]; exact hx
 | a :: es, hP, h => by
  rw [putE] at h; rw [putN]
  split at h
  · rename_i hlt
    rw [if_pos hlt]
    rcases mI.1 h with rfl | h
    · exact Or.inl (mS ..)
    · rcases putE_ok (P := P) hx (fun b hb => hP b (mO _ hb)) h with h | h
      · exact Or.inl (mO _ h)
      · exact Or.inr h
  · rename_i hlt
    rw [if_neg hlt]
    split at h
    · rename_i heq
      rw [if_pos heq]
      rcases mI.1 h with rfl | h
      · refine Or.inr ⟨rfl, fun hr => ?_, ?_, ?_, fun z hz => ?_⟩
        · rw [zh1, if_neg hr]; rfl
        · rw [zh1, lP, List.length_singleton]; omega
        · rw [zh1, lP, List.length_singleton]; split <;> rfl
        · rw [zh1] at hz
          rcases mA.1 hz with hz | hz
          · split at hz
            · rw [← heq]; exact hP a (mS ..) z hz
            · cases hz
          · rw [List.mem_singleton] at hz; rw [hz]; exact hx
      · exact Or.inl (mO _ h)
    · rename_i hne
      rw [if_neg hne]
      rcases mI.1 h with rfl | h
      · refine Or.inr ⟨rfl, fun _ => rfl, nR _, rfl, fun z hz => ?_⟩
        rw [zh1, List.mem_singleton] at hz; rw [hz]; exact hx
      · exact Or.inl h
theorem oneD_ok {s : GSchema} {d : Nat} {y : GType} {r : GRaw} (ih : ∀ m b, (decM s d m b).2 = 0 → okT s d m (decM s d m b).1 ∧ ∃ c, encT d (decM s d m b).1 = some c ∧ c.length ≤ b.length) (hr : zs2 r) (h0 : (oneD (decM s d) s y r).2 = 0) :
 okV (okT s d) s y (oneD (decM s d) s y r).1 ∧ ∃ q, rawT (encT d) r.fTag (oneD (decM s d) s y r).1 = some q ∧ (rawB q).length ≤ (rawB r).length := by
 obtain ⟨hc1, hc2, hc⟩ := zg2 hr.1
 by_cases hw : (y.fKind = 4 ∨ y.fKind = 5 ∨ y.fKind = 7) ∧ r.fWire = 1 ∨ ¬ (y.fKind = 4 ∨ y.fKind = 5 ∨ y.fKind = 7) ∧ r.fWire = 0
 · rw [zU3 hw] at h0 ⊢
   have hnum : r.fWire = 0 → ∀ x : GTree, x = ⟨1, r.fN, [], [], []⟩ → ∃ q, rawT (encT d) r.fTag x = some q ∧ (rawB q).length ≤ (rawB r).length := by
    intro h x hx
    obtain ⟨h1, h2⟩ : r.fWire = 0 ∧ r.fB = [] := by
     rcases hc with hc | hc
     · exact hc
     · omega
    refine ⟨⟨r.fTag, 0, r.fN, []⟩, ?_, ?_⟩
    · rw [hx, rawT, gt_kind, if_pos rfl]; rfl
    · have : (⟨r.fTag, 0, r.fN, []⟩ : GRaw) = r := by cases r; simp only at h1 h2 ⊢; rw [h1, h2]
      rw [this]; exact nR _
   have htext : r.fWire = 1 → r.fN = 0 ∧ r.fB.length ≤ 4096 := by
    intro h
    rcases hc with hc | hc
    · omega
    · exact hc.2
   have hstr : r.fWire = 1 → ∀ x : GTree, x = ⟨2, 0, r.fB, [], []⟩ → ∃ q, rawT (encT d) r.fTag x = some q ∧ (rawB q).length ≤ (rawB r).length := by
    intro h x hx
    obtain ⟨h1, h2⟩ := htext h
    refine ⟨⟨r.fTag, 1, 0, r.fB⟩, ?_, ?_⟩
    · rw [hx, rawT, gt_kind, if_neg (by decide), if_pos rfl, gt_s, if_neg (by omega)]
    · have : (⟨r.fTag, 1, 0, r.fB⟩ : GRaw) = r := by cases r; simp only at h h1 ⊢; rw [h, h1]
      rw [this]; exact nR _
   unfold okV
   by_cases h3 : y.fKind = 3 ∨ y.fKind = 6
   · rw [if_pos h3] at h0 ⊢
     have w0 : r.fWire = 0 := by rcases hw with hw | hw; omega; exact hw.2
     rw [if_neg (by omega), if_neg (by omega)]
     by_cases hn : valid_Number y r.fN = true
     · rw [if_pos hn] at h0 ⊢
       exact ⟨⟨rfl, hr.2, fun _ => hn⟩, hnum w0 _ rfl⟩
     · rw [if_neg hn] at h0; exact absurd h0 (by decide)
   · rw [if_neg h3] at h0 ⊢
     by_cases h4 : y.fKind = 4
     · have w1 : r.fWire = 1 := by rcases hw with hw | hw; exact hw.2; omega
       rw [if_pos h4] at h0 ⊢
       rw [if_neg (by omega), if_pos (Or.inl h4)]
       by_cases hn : zd5 r.fB = true
       · rw [if_pos hn] at h0 ⊢
         exact ⟨⟨rfl, (htext w1).2, fun _ => hn⟩, hstr w1 _ rfl⟩
       · rw [if_neg hn] at h0; exact absurd h0 (show ¬ ((zm2, (9 : Int)).2 = 0) by decide)
     · rw [if_neg h4] at h0 ⊢
       by_cases h7 : y.fKind = 7
       · have w1 : r.fWire = 1 := by rcases hw with hw | hw; exact hw.2; omega
         rw [if_pos h7] at h0 ⊢
         rw [if_pos h7]
         obtain ⟨hok, c, hc', hl⟩ := ih _ _ h0
         have hk3 : (decM s d (msgOf s y.fName) r.fB).1.fKind = 3 := by
          cases d with
          | zero => exact hok.elim
          | succ d => exact hok.1
         refine ⟨⟨hk3, hok⟩, ⟨r.fTag, 1, 0, c⟩, ?_, ?_⟩
         · rw [rawT, if_neg (by omega), if_neg (by omega), hc']; rfl
         · have hv := vb_mono hl
           have hkey : keyN (⟨r.fTag, 1, 0, c⟩ : GRaw) = keyN r := by unfold keyN; rw [w1]
           unfold rawB
           rw [hkey, gr_wire, if_neg (by decide), w1, if_neg (by decide), gr_b]
           simp only [lP]; omega
       · rw [if_neg h7] at h0 ⊢
         rw [if_neg h7]
         by_cases h5 : y.fKind = 5
         · have w1 : r.fWire = 1 := by rcases hw with hw | hw; exact hw.2; omega
           rw [if_pos w1, if_pos (Or.inr h5)]
           exact ⟨⟨rfl, (htext w1).2, fun h => absurd h h4⟩, hstr w1 _ rfl⟩
         · have w0 : r.fWire = 0 := by rcases hw with hw | hw; omega; exact hw.2
           rw [if_neg (show ¬ r.fWire = 1 by omega), if_neg (by omega)]
           exact ⟨⟨rfl, hr.2, fun h => absurd h h3⟩, hnum w0 _ rfl⟩
 · exfalso
   unfold oneD at h0
   rw [if_neg ?_] at h0
   · exact absurd h0 (show ¬ ((zm2, (8 : Int)).2 = 0) by decide)
   · intro hc
     by_cases h : y.fKind = 4 ∨ y.fKind = 5 ∨ y.fKind = 7
     · rw [if_pos h] at hc; exact hw (Or.inl ⟨h, hc⟩)
     · rw [if_neg h] at hc; exact hw (Or.inr ⟨h, hc⟩)
def okJ (s : GSchema) (d : Nat) (m : GMessage) (n : Nat) (es : List GEntry) (rest : List GRaw) : Prop :=
 es.Pairwise zP2 ∧ (∀ e ∈ es, okN (okT s d) s m e) ∧ (∀ r ∈ rest, zs2 r ∧ (check_Field m r.fTag).2 ≠ true) ∧ ∃ L, rawE (encT d) es = some L ∧ (zk1 L).length + (zk1 rest).length ≤ n
theorem fldD_ok {s : GSchema} {d : Nat} {m : GMessage} (ih : ∀ m b, (decM s d m b).2 = 0 → okT s d m (decM s d m b).1 ∧ ∃ c, encT d (decM s d m b).1 = some c ∧ c.length ≤ b.length) : ∀ {l : List GRaw} {es : List GEntry} {rest : List GRaw} {n : Nat}, (∀ r ∈ l, zs2 r) → okJ s d m n es rest → (fldD m (oneD (decM s d) s) l es rest).2 = 0 →
 ∃ es' rest', okJ s d m (n + (zk1 l).length) es' rest' ∧ fldD m (oneD (decM s d) s) l es rest = (⟨3, 0, [], zdel m es', srt rest'⟩, 0)
 | [], es, rest, n, _, hJ, _ => ⟨es, rest, hJ, rfl⟩
 | r :: l, es, rest, n, hr, hJ, h0 => by
  have hrr := hr r (mS ..)
  have hl : ∀ x ∈ l, zs2 x := fun x hx => hr x (mO _ hx)
  have hc := zg2 hrr.1
  obtain ⟨j1, j2, j3, L, j4, j5⟩ := hJ
  have en : n + (zk1 (r :: l)).length = (n + (rawB r).length) + (zk1 l).length := by rw [zd1, lP]; omega
  rw [fldD] at h0 ⊢
  rw [en]
  by_cases hk : (check_Field m r.fTag).2 = true
  · rw [if_pos hk] at h0 ⊢
    by_cases ho : (oneD (decM s d) s (check_Field m r.fTag).1.fType r).2 = 0
    · rw [if_pos ho] at h0 ⊢
      by_cases hp : putN r.fTag ((check_Field m r.fTag).1.fLabel = 3) es ≤ 64
      · rw [if_pos hp] at h0 ⊢
        obtain ⟨hv, q, hq, hqb⟩ := oneD_ok ih hrr ho
        obtain ⟨L', hL', hLb⟩ := rawE_put (rep := (check_Field m r.fTag).1.fLabel = 3) hq j4
        refine fldD_ok ih hl ⟨zH3 j1, fun e he => ?_, j3, L', hL', by omega⟩ h0
        rcases putE_ok (P := fun t z => okV (okT s d) s (check_Field m t).1.fType z) hv (fun a ha => (j2 a ha).2.2.2.2) he with h | ⟨a1, a2, a3, a4, a5⟩
        · exact j2 e h
        · exact ⟨by rw [a1]; exact ⟨hc.1, hc.2.1⟩, by rw [a1]; exact hk, ⟨a3, by omega⟩, by rw [a1]; exact a2, by rw [a1]; exact a5⟩
      · rw [if_neg hp] at h0; exact absurd h0 (show ¬ ((zm2, (4 : Int)).2 = 0) by decide)
    · rw [if_neg ho] at h0; exact absurd h0 ho
  · rw [if_neg hk] at h0 ⊢
    refine fldD_ok ih hl ⟨j1, j2, fun x hx => ?_, L, j4, ?_⟩ h0
    · rcases mA.1 hx with hx | hx
      · exact j3 x hx
      · rw [List.mem_singleton] at hx; rw [hx]; exact ⟨hrr, hk⟩
    · rw [zY1, zd1, lP, lP]; show _ + (_ + (_ + 0)) ≤ _; omega
theorem decM_ok {s : GSchema} : ∀ (d : Nat) (m : GMessage) (b : List UInt8), (decM s d m b).2 = 0 → okT s d m (decM s d m b).1 ∧ ∃ c, encT d (decM s d m b).1 = some c ∧ c.length ≤ b.length
 | 0, _, _, h => absurd h (show ¬ ((zm2, (10 : Int)).2 = 0) by decide)
 | d + 1, m, b, h => by
  rw [decM] at h ⊢
  by_cases hg : (getD b).2 = 0
  · rw [if_pos hg] at h ⊢
    obtain ⟨g1, g2, g3⟩ := getD_ok hg
    obtain ⟨es, rest, ⟨j1, j2, j3, L, j4, j5⟩, e⟩ := fldD_ok (decM_ok d) (n := 0) (es := []) (rest := []) g3 ⟨List.Pairwise.nil, (fun _ h => by cases h), (fun _ h => by cases h), [], rfl, nR _⟩ h
    rw [← g1] at j5
    rw [e]
    obtain ⟨L', f1, f2⟩ := zj5 (p := fun e => !isZ m e) j4
    have hrl : rest.length ≤ 4096 := by have := zl4 rest; omega
    have hlen : (zk1 (srt (srt rest ++ L'))).length ≤ b.length := by
     rw [srt_bytes, zY1, lP, srt_bytes]; omega
    refine ⟨⟨rfl, rfl, rfl, ?_, fun x hx => ?_, zi4 _, ?_, fun r hr => ?_⟩, zk1 (srt (srt rest ++ L')), ?_, hlen⟩
    · rw [gt_es]; exact List.Pairwise.filter _ j1
    · rw [gt_es, zdel, List.mem_filter, Bool.not_eq_true'] at hx
      exact ⟨j2 x hx.1, hx.2⟩
    · rw [gt_rest, srt_len]; exact hrl
    · rw [gt_rest, srt_mem] at hr; exact j3 r hr
    · rw [encT, gt_es, gt_rest, zdel, f1, bS, putB, if_neg (by omega)]
  · rw [if_neg hg] at h; exact absurd h hg
end Go.Proofs.YtaddlmlpeghonaaDoor
end
section
set_option maxRecDepth 4000
namespace Go.Proofs.YtaddlmlpeghonaaDoor
open AM
theorem decM_enc {s : GSchema} {m : GMessage} {b : List UInt8} (h : (decM s 10 m b).2 = 0) : okT s 10 m (decM s 10 m b).1 ∧ ∃ c, encode_Encode (decM s 10 m b).1 = some (c, 0) ∧ c.length ≤ b.length ∧ c.length ≤ 4096 ∧ decM s 10 m c = ((decM s 10 m b).1, 0) := by
 obtain ⟨hok, c, hc, hl⟩ := decM_ok 10 m b h
 refine ⟨hok, c, ?_, hl, encT_le hc, decM_back 10 m _ c hok hc⟩
 rw [Encode_eq (okT_sz 10 10 m _ (nR _) hok), if_pos ⟨okT_check (nR _) hok, hok.1⟩, hc]; rfl
end Go.Proofs.YtaddlmlpeghonaaDoor
end
section
set_option maxRecDepth 4000
namespace Go.Proofs.YtaddlmlpeghonaaDoor
open AM

end Go.Proofs.YtaddlmlpeghonaaDoor
end
section
set_option maxRecDepth 4000
namespace Go.Proofs.YtaddlmlpeghonaaDoor
open AM
def szS (s : GSchema) : Prop := nmS s ∧ s.fMessages.length * 64 ≤ 140737488351232 ∧ s.fEnums.length * 40 ≤ 140737488351232 ∧ s.fMethods.length * 48 ≤ 140737488351232 ∧ (∀ m ∈ s.fMessages, m.fFields.length * 56 ≤ 140737488351232 ∧ m.fReserved.length * 8 ≤ 140737488351232) ∧ ∀ e ∈ s.fEnums, e.fValues.length * 24 ≤ 140737488351232
theorem few_l25 {m : GMessage} {x2 x3 : Int} {rec6 : Int → Int → Option Bool} (hr : ∃ b, rec6 (IntKind.i64.wrap (x2 + (lN m.fName : Int))) (IntKind.i64.wrap (x3 + 1)) = some b) : ∀ (l : List GField) (i : Int), ∃ b, law00_Few.l25 x2 x3 rec6 m l i = some b
 | [], _ => by rw [law00_Few.l25]; exact hr
 | f :: l, i => by
  rw [law00_Few.l25]
  split
  · exact ⟨_, rfl⟩
  · exact few_l25 hr l _
theorem few_l60 {x : Int} {rec43 : Int → Option Bool} (hr : ∃ b, rec43 (IntKind.i64.wrap (x + 1)) = some b) : ∀ (l : List GNamed) (i : Int), ∃ b, law00_Few.l60 x rec43 l i = some b
 | [], _ => by rw [law00_Few.l60]; exact hr
 | f :: l, i => by
  rw [law00_Few.l60]
  split
  · exact ⟨_, rfl⟩
  · exact few_l60 hr l _
theorem idx_ex {α : Type} {l : List α} {j : Nat} (h : j < l.length) : idxL l (j : Int) = some (l[j]'h) :=
 idx_t (by omega) (by rw [Int.toNat_natCast]; exact List.getElem?_eq_getElem h)
theorem few_l78 {s : GSchema} {n : Int} : ∀ (k j : Nat), 20 < k + j → j ≤ 20 → ∃ b, law00_Few.l78 s n k (j : Int) = some b
 | 0, j, h, h' => by omega
 | k + 1, j, h, h' => by
  rw [law00_Few.l78]
  split
  · rename_i hc
    simp only [Bool.and_eq_true, decide_eq_true_eq] at hc
    rw [idx_ex (show j < s.fMethods.length by omega), bS]
    split
    · exact ⟨_, rfl⟩
    · rw [zW (by omega) (by omega), show (j : Int) + 1 = ((j + 1 : Nat) : Int) by omega]
      exact few_l78 k (j + 1) (by omega) (by omega)
  · exact ⟨_, rfl⟩
theorem few_l43 {s : GSchema} {n : Int} : ∀ (k j : Nat), 20 < k + j → j ≤ 20 → ∃ b, law00_Few.l43 s n k (j : Int) = some b
 | 0, j, h, h' => by omega
 | k + 1, j, h, h' => by
  rw [law00_Few.l43]
  split
  · rename_i hc
    simp only [Bool.and_eq_true, decide_eq_true_eq] at hc
    rw [idx_ex (show j < s.fEnums.length by omega), bS]
    split
    · exact ⟨_, rfl⟩
    · refine few_l60 ?_ _ _
      rw [zW (by omega) (by omega), show (j : Int) + 1 = ((j + 1 : Nat) : Int) by omega]
      exact few_l43 k (j + 1) (by omega) (by omega)
  · exact few_l78 rounds 0 (by have := zS; omega) (by omega)
theorem few_l6 {s : GSchema} : ∀ (k j : Nat) (n : Int), 20 < k + j → j ≤ 20 → ∃ b, law00_Few.l6 s k n (j : Int) = some b
 | 0, j, n, h, h' => by omega
 | k + 1, j, n, h, h' => by
  rw [law00_Few.l6]
  split
  · rename_i hc
    simp only [Bool.and_eq_true, decide_eq_true_eq] at hc
    rw [idx_ex (show j < s.fMessages.length by omega), bS]
    split
    · exact ⟨_, rfl⟩
    · refine few_l25 ?_ _ _
      rw [zW (x := (j : Int) + 1) (by omega) (by omega), show (j : Int) + 1 = ((j + 1 : Nat) : Int) by omega]
      exact few_l6 k (j + 1) _ (by omega) (by omega)
  · exact few_l43 rounds 0 (by have := zS; omega) (by omega)
theorem few_t (s : GSchema) : ∃ b, law00_Few s = some b := few_l6 rounds 0 _ (by have := zS; omega) (by omega)
end Go.Proofs.YtaddlmlpeghonaaDoor
end
section
set_option maxRecDepth 4000
namespace Go.Proofs.YtaddlmlpeghonaaDoor
open AM
theorem awake25 : law25_awake = some true := by decide +kernel
theorem dec_t {s : GSchema} {n b : List UInt8} (hs : nmS s) : ∃ r, decode_Decode s n b = some r ∧ (r.2 = 0 → r = decM s 10 (msgOf s n) b) := by
 by_cases hc : chkV s = 0
 · have hck : check_Check s = some 0 := by rw [zx5 hs, hc]
   by_cases hm : (check_Message s n).2 = true
   · exact ⟨_, decode_eq hck hm, fun _ => rfl⟩
   · refine ⟨(zm2, 14), ?_, fun h => absurd h (by decide)⟩
     rw [decode_Decode, hck, bS, if_pos rfl, bnd, if_pos (by simpa using hm)]; rfl
 · refine ⟨(zm2, 1), ?_, fun h => absurd h (by decide)⟩
   rw [decode_Decode, zx5 hs, bS, if_neg hc]; rfl
def zPacket : GPacket := ⟨0, 0, 0, 0, 0, [], 0, []⟩
def withB (p : GPacket) (c : List UInt8) : GPacket := ⟨p.fKind, p.fFrom, p.fTo, p.fID, p.fVersion, p.fMethod, p.fErr, c⟩
theorem j8_eq {s : GSchema} {p : GPacket} {n : List UInt8} (hs : nmS s) (hb : p.fBody.length ≤ 5000) : proxy_Pass.j8 s p n = some (zPacket, false) ∨
 ∃ c, proxy_Pass.j8 s p n = some (withB p c, true) ∧ c.length ≤ p.fBody.length ∧ (∀ q : GPacket, q.fBody = c → proxy_Pass.j8 s q n = some (withB q c, true)) := by
 obtain ⟨r, hr, h0⟩ := dec_t (b := p.fBody) (n := n) hs
 by_cases h : r.2 = 0
 · have e := h0 h
   subst e
   obtain ⟨hok, c, he, hl, _, hback⟩ := decM_enc h
   right
   refine ⟨c, ?_, hl, fun q hq => ?_⟩
   · rw [proxy_Pass.j8, zI3 (by omega), bS, hr, bS, if_pos h, he, bS, if_pos rfl]; rfl
   · have hd : decode_Decode s n c = some ((decM s 10 (msgOf s n) p.fBody).1, 0) := by
      obtain ⟨r', hr', h0'⟩ := dec_t (b := c) (n := n) hs
      by_cases hc : chkV s = 0
      · have hck : check_Check s = some 0 := by rw [zx5 hs, hc]
        by_cases hm : (check_Message s n).2 = true
        · rw [decode_eq hck hm, hback]
        · rw [decode_Decode, hck, bS, if_pos rfl, bnd, if_pos (by simpa using hm)] at hr
          have := Option.some.inj hr
          rw [← this] at h; exact absurd h (by decide)
      · rw [decode_Decode, zx5 hs, bS, if_neg hc] at hr
        have := Option.some.inj hr
        rw [← this] at h; exact absurd h (by decide)
     rw [proxy_Pass.j8, hq, zI3 (by omega), bS, hd, bS, if_pos rfl, he, bS, if_pos rfl]; rfl
 · left
   rw [proxy_Pass.j8, zI3 (by omega), bS, hr, bS, if_neg h]; rfl
theorem pass_eq {s : GSchema} {p : GPacket} (hs : nmS s) (hb : p.fBody.length ≤ 5000) : ∃ r, proxy_Pass s p = some r ∧ r.1.fBody.length ≤ 5000 := by
 have h8 : ∀ n, ∃ r, proxy_Pass.j8 s p n = some r ∧ r.1.fBody.length ≤ 5000 := by
  intro n
  rcases j8_eq (n := n) hs hb with h | ⟨c, h, hl, _⟩
  · exact ⟨_, h, by decide⟩
  · exact ⟨_, h, Nat.le_trans hl hb⟩
 have h23 : ∀ r6 x, ∃ r, proxy_Pass.j23 s p r6 x = some r ∧ r.1.fBody.length ≤ 5000 := by
  intro r6 x
  rw [proxy_Pass.j23]
  split
  · exact ⟨_, rfl, hb⟩
  · split <;> exact h8 _
 rw [proxy_Pass, zx5 hs, bS]
 split
 · rw [bnd]
   split <;> exact h23 _ _
 · exact ⟨_, rfl, by decide⟩
end Go.Proofs.YtaddlmlpeghonaaDoor
end
section
set_option maxRecDepth 4000
namespace Go.Proofs.YtaddlmlpeghonaaDoor
open AM
theorem chain_i : ∀ (l : List GSchema) (i j : Int) (p : GPacket) (x : Bool), proxy_Chain.l10 l i p x = proxy_Chain.l10 l j p x
 | [], _, _, _, _ => rfl
 | s :: l, i, j, p, x => by
  rw [proxy_Chain.l10, proxy_Chain.l10]
  congr 1
  funext r
  rw [chain_i l (i + 1) (j + 1)]
theorem chain_app {b : List GSchema} : ∀ (a : List GSchema) (i : Int) (p : GPacket), proxy_Chain.l10 (a ++ b) i p true = (proxy_Chain.l10 a i p true).bind fun r => if r.2 = true then proxy_Chain.l10 b 0 r.1 true else some r
 | [], i, p => by
  rw [nA, proxy_Chain.l10, proxy_Chain.j3, bS, if_pos rfl]
  exact chain_i b i 0 p true
 | s :: a, i, p => by
  rw [cA, proxy_Chain.l10, proxy_Chain.l10]
  cases proxy_Pass s p with
  | none => rfl
  | some r =>
   obtain ⟨q, v⟩ := r
   rw [bS, bS]
   cases v with
   | false => rfl
   | true =>
    dsimp only
    rw [if_neg (by decide), if_neg (by decide)]
    exact chain_app a (i + 1) q
theorem chain_t : ∀ (l : List GSchema) (i : Int) (p : GPacket) (x : Bool), (∀ s ∈ l, nmS s) → p.fBody.length ≤ 5000 → ∃ r, proxy_Chain.l10 l i p x = some r ∧ r.1.fBody.length ≤ 5000
 | [], _, p, x, _, h => ⟨_, rfl, h⟩
 | s :: l, i, p, x, hs, h => by
  obtain ⟨r, hr, hl⟩ := pass_eq (hs s (mS ..)) h
  rw [proxy_Chain.l10, hr, bS]
  split
  · exact ⟨_, rfl, hl⟩
  · exact chain_t l _ _ _ (fun y hy => hs y (mO _ hy)) hl
theorem chains_end {a b : List GSchema} {p q : GPacket} {x : Bool} (ha : a.length ≤ 4) (hb : b.length ≤ 4) (h : proxy_Chain (a ++ b) p = some (q, x)) : law25_ProxyChains.j35 a b p q x = some true := by
 rw [law25_ProxyChains.j35, zM1 (by omega), bS, zM1 (by omega), bS, h, bS, if_pos (by simp), awake25]; rfl
theorem chains_l9 {a b : List GSchema} {p : GPacket} (ha : a.length ≤ 4) (hb : b.length ≤ 4) (hp : p.fBody.length ≤ 5000) (hsa : ∀ s ∈ a, nmS s) (hsb : ∀ s ∈ b, nmS s) : ∀ (k j : Nat), 8 < k + j → j ≤ 8 → law25_ProxyChains.l9 a b p k (j : Int) = some true
 | 0, j, h, h' => by omega
 | k + 1, j, h, h' => by
  rw [law25_ProxyChains.l9, zW (x := (a.length : Int) + b.length) (by omega) (by omega)]
  by_cases hj : (j : Int) < (a.length : Int) + b.length
  · rw [if_pos hj]
    obtain ⟨c14, e1⟩ : ∃ c, (if (j : Int) < (a.length : Int) then (idxL a (j : Int)).bind fun y14 => (law00_Few y14).bind fun r17 => some (!r17) else some false) = some c := by
     split
     · rw [idx_ex (show j < a.length by omega), bS]
       obtain ⟨f, hf⟩ := few_t (a[j]'(by omega))
       rw [hf]; exact ⟨_, rfl⟩
     · exact ⟨_, rfl⟩
    obtain ⟨c21, e2⟩ : ∃ c, (if (a.length : Int) ≤ (j : Int) then (idxL b (IntKind.i64.wrap ((j : Int) - (a.length : Int)))).bind fun y21 => (law00_Few y21).bind fun r24 => some (!r24) else some false) = some c := by
     split
     · rw [zW (by omega) (by omega), show (j : Int) - (a.length : Int) = ((j - a.length : Nat) : Int) by omega, idx_ex (show j - a.length < b.length by omega), bS]
       obtain ⟨f, hf⟩ := few_t (b[j - a.length]'(by omega))
       rw [hf]; exact ⟨_, rfl⟩
     · exact ⟨_, rfl⟩
    rw [e1, bS, e2, bS]
    obtain ⟨c, e3⟩ : ∃ c, (if c14 = true then some true else some c21) = some c := by split <;> exact ⟨_, rfl⟩
    rw [e3, bS]
    split
    · rw [awake25]; rfl
    · rw [zW (by omega) (by omega), show (j : Int) + 1 = ((j + 1 : Nat) : Int) by omega]
      exact chains_l9 ha hb hp hsa hsb k (j + 1) (by omega) (by omega)
  · rw [if_neg hj]
    obtain ⟨⟨q, x⟩, hr, hl⟩ := chain_t a 0 p true hsa hp
    have happ := chain_app (b := b) a 0 p
    rw [hr, bS] at happ
    rw [show proxy_Chain a p = some (q, x) from hr, bS]
    cases x with
    | true =>
     rw [if_pos rfl] at happ ⊢
     obtain ⟨⟨q2, x2⟩, hr2, _⟩ := chain_t b 0 q true hsb hl
     rw [hr2] at happ
     rw [show proxy_Chain b q = some (q2, x2) from hr2, bS]
     exact chains_end ha hb happ
    | false =>
     rw [if_neg Bool.false_ne_true] at happ ⊢
     exact chains_end ha hb happ
theorem chains_true {a b : List GSchema} {p : GPacket} (hsa : ∀ s ∈ a, nmS s) (hsb : ∀ s ∈ b, nmS s) : law25_ProxyChains a b p = some true := by
 rw [law25_ProxyChains]
 split
 · rw [awake25]; rfl
 · rename_i h
   simp only [Bool.or_eq_true, decide_eq_true_eq, not_or] at h
   exact chains_l9 (by omega) (by omega) (by omega) hsa hsb rounds 0 (by have := zS; omega) (by omega)
end Go.Proofs.YtaddlmlpeghonaaDoor
end
section
namespace Go.Proofs.YtaddlmlpeghonaaDoor
open Go.ChangeShapes Go.WideShapes Go.ChangeAt Go.RowKit Go.Shelf Go.Lib AM
theorem own : ownKnob Tryd.prog.godebug = none := by kernel_rfl
theorem laidOut : laidOutB Tryd.prog = true := by kernel_rfl
def listed : List (String × DataW Unit) := [("unicode/utf8.acceptRanges", Rows.laid_unicode_utf8_acceptRanges), ("unicode/utf8.first", Rows.laid_unicode_utf8_first)]
noncomputable def laidWorld (os : Os) : World :=
 let w0 := World.holding Tryd.prog os ⟨#[], #[], []⟩
 let put (h : Array Obj) (g : Nat) (cs : Array Value) : Array Obj := h.modify g fun
  | .cells _ t frozen => .cells cs t frozen
  | o => o
 let h1 := put w0.heap (utf8Ren.g 3) (Lib.firstTab.map fun z => Value.int .u8 z).toArray
 let h2 := put h1 (utf8Ren.g 4) ((List.range 16).flatMap fun i => [Value.int .u8 (Lib.accLo i), Value.int .u8 (Lib.accHi i)]).toArray
 { w0 with heap := h2 }
theorem laid_met (os : Os) (args : Array Value) : laidMet Tryd.prog listed ((laidWorld os).forCall (fun _ _ => 0) ⟨#[], args, []⟩).memory :=
 (LaidIn.of_run (l := listed) [0, 1] 8 (by kernel_rfl) (by kernel_rfl) (by kernel_rfl) (by kernel_rfl)).met
theorem laid_metH (os : Os) (args : Array Value) : laidMetH Tryd.prog listed ((laidWorld os).forCall (fun _ _ => 0) ⟨#[], args, []⟩).memory := laid_met os args
theorem firstD : Rows.laid_unicode_utf8_first = Lib.firstData := by kernel_rfl
theorem acceptD : (Rows.laid_unicode_utf8_acceptRanges : DataW Unit) = Lib.acceptData := by kernel_rfl
theorem u8types : U8Types Tryd.prog utf8Ren := ⟨utf8Lays.t5, utf8Lays.t119, utf8Lays.t138, utf8Lays.t139⟩
theorem glb_of_laid {W : World} (hL : laidMetH Tryd.prog listed W) : Glb W fun b => b < W.heap.size := by
 have h' : laidMet Tryd.prog listed W := hL
 have r1 := Lib.laidMet.reads h' (.tail _ (.head _))
 have r2 := Lib.laidMet.reads h' (.head _)
 rw [firstD] at r1
 rw [acceptD] at r2
 have ht : Lib.Utf8Tabs (utf8Ren.g 3) (utf8Ren.g 4) W := utf8Tabs_of_readsT u8types ⟨by kernel_rfl, by kernel_rfl, by kernel_rfl, by kernel_rfl, by kernel_rfl, by kernel_rfl, by kernel_rfl⟩ r1 r2
 obtain ⟨t1, t2⟩ := ht
 have lt : ∀ {g o : Nat} {v : Value}, W.cell? ⟨g, o, none⟩ = some v → g < W.heap.size := by
  intro g o v h
  refine Nat.lt_of_not_le fun hle => ?_
  unfold World.cell? at h
  rw [Array.getElem?_eq_none hle] at h
  cases h
 refine ⟨fun g vs hm => ?_, fun g vs hm i v hv => ?_⟩
 · rcases mI.1 hm with e | hm
   · cases e; exact lt (t1 0 (by decide))
   · rcases mI.1 hm with e | hm
     · cases e; exact lt (t2 0 (by decide)).1
     · cases hm
 · rcases mI.1 hm with e | hm
   · cases e
     have hi : i < 256 := by
      have := (List.getElem?_eq_some_iff.1 hv).1; simpa using this
     rw [List.getElem?_map, List.getElem?_range hi] at hv
     cases hv
     exact t1 i hi
   · rcases mI.1 hm with e | hm
     · cases e
       have hi : i < 32 := by
        have := (List.getElem?_eq_some_iff.1 hv).1; simpa using this
       rw [List.getElem?_map, List.getElem?_range hi] at hv
       cases hv
       have h1 := t2 (i / 2) (by omega)
       have : i % 2 = 0 ∨ i % 2 = 1 := by omega
       rcases this with h | h
       · have e : 2 * (i / 2) = i := by omega
         rw [e] at h1
         simp only [h, if_true]; exact h1.1
       · have e : 2 * (i / 2) + 1 = i := by omega
         rw [e] at h1
         simp only [h]; exact h1.2
     · cases hm
end Go.Proofs.YtaddlmlpeghonaaDoor
end
section
namespace Go.Proofs.YtaddlmlpeghonaaDoor
namespace AM
open Go.RowKit Go.ChangeShapes Go.WideShapes Go.Deep
section
variable {H : Type} {enc : TypeId × Value → H} {P : Program} {w : World} {base : Nat} {spare : Nat → Bool} {held : Bool}
def OpensS (enc : TypeId × Value → H) (P : Program) (w : World) (base : Nat) (spare : Nat → Bool) (held : Bool) (N : Nat) (t : TypeId) (A : List AV → Prop) : Prop :=
 ∀ n cs y, DataW.trod enc P w base spare held n t cs = some y → SizeOf.sizeOf y.1 < N → (∀ x ∈ y.1.weights P t, x ≤ reachBytes) → ∃ avs, avs.length = cs.length ∧ A avs ∧ ∀ i, i < avs.length → VR (Env.start w) (gc avs i) (cs.getD i undef)
variable {N : Nat}
theorem OpensS.mono {t : TypeId} {A B : List AV → Prop} (h : OpensS enc P w base spare held N t A) (k : ∀ l, A l → B l) : OpensS enc P w base spare held N t B := fun n cs y hy hN hs => by
 obtain ⟨avs, h1, h2, h3⟩ := h n cs y hy hN hs
 exact ⟨avs, h1, k _ h2, h3⟩
theorem OpensS.less {t : TypeId} {A : List AV → Prop} (h : OpensS enc P w base spare held (N + 1) t A) : OpensS enc P w base spare held N t A := fun n cs y hy hN hs => h n cs y hy (by omega) hs
theorem Opens.sized {t : TypeId} {A : List AV → Prop} (h : Opens enc P w base spare held t A) : OpensS enc P w base spare held N t A := fun n cs y hy _ _ => h n cs y hy
theorem opensS_string {t : TypeId} (ht : P.underlying t = some .string) : OpensS enc P w base spare held N t fun l => ∃ s, l = [.str s] ∧ s.length ≤ reachBytes := by
 intro n cs y hy _ hs
 obtain ⟨m, rfl, hy, hl⟩ := DataW.trod_string ht hy
 refine ⟨[.str m.data.toList], rfl, ⟨_, rfl, ?_⟩, fun i hi => by simp at hi; subst hi; exact .str _ _ rfl⟩
 have := hs m.data.toList.length (by subst hy; simp [DataW.weights])
 simpa using this
def tiles (P : Program) : List Field → Nat → Nat → Bool
 | [], o, e => o == e
 | f :: l, o, e => f.offset == o && tiles P l (o + P.cellsOf f.type) e
theorem tile {cs : List Value} {A : Nat → List AV → Prop} : ∀ (l : List Field) (o k e : Nat), tiles P l o e = true →
 (∀ j f, l[j]? = some f → ∃ avs : List AV, avs.length = P.cellsOf f.type ∧ A (k + j) avs ∧ ∀ i, i < avs.length → VR (Env.start w) (gc avs i) (cs.getD (f.offset + i) undef)) →
 ∃ parts : List (List AV), parts.length = l.length ∧ (∀ j, j < l.length → A (k + j) (parts.getD j [])) ∧ o + parts.flatten.length = e ∧ ∀ i, i < parts.flatten.length → VR (Env.start w) (gc parts.flatten i) (cs.getD (o + i) undef)
 | [], o, k, e, h, _ => ⟨[], rfl, (fun j hj => by simp at hj), by simpa [tiles] using h, (fun i hi => by simp at hi)⟩
 | f :: l, o, k, e, h, hA => by
  simp only [tiles, Bool.and_eq_true, beq_iff_eq] at h
  obtain ⟨avs, a1, a2, a3⟩ := hA 0 f rfl
  obtain ⟨parts, p1, p2, p3, p4⟩ := tile l (o + P.cellsOf f.type) (k + 1) e h.2 fun j g hg => by
   obtain ⟨x, x1, x2, x3⟩ := hA (j + 1) g (by simpa using hg)
   exact ⟨x, x1, by rw [show k + 1 + j = k + (j + 1) by omega]; exact x2, x3⟩
  refine ⟨avs :: parts, by simp [p1], ?_, by rw [List.flatten_cons, lP]; omega, ?_⟩
  · intro j hj
    cases j with
    | zero => simpa using a2
    | succ j =>
     have := p2 j (by simpa using hj)
     rw [show k + 1 + j = k + (j + 1) by omega] at this
     simpa using this
  · intro i hi
    rw [List.flatten_cons] at hi ⊢
    by_cases hlt : i < avs.length
    · have := a3 i hlt
      rw [h.1] at this
      rw [gc, gG, gL hlt]
      simpa [gc, gG] using this
    · rw [lP] at hi
      have := p4 (i - avs.length) (by omega)
      rw [show o + P.cellsOf f.type + (i - avs.length) = o + i by omega] at this
      rw [gc, gG, gR (by omega)]
      simpa [gc, gG] using this
theorem mem_weightsEach {x : Nat} : ∀ {ts : List TypeId} {ds : List (DataW H)} (j : Nat) (t : TypeId) (d : DataW H), ts[j]? = some t → ds[j]? = some d → x ∈ d.weights P t → x ∈ DataW.weightsEach P ts ds
 | [], _, j, t, d, h, _, _ => by simp at h
 | _ :: _, [], j, t, d, _, h, _ => by simp at h
 | t' :: ts, d' :: ds, j, t, d, ht, hd, hx => by
  rw [DataW.weightsEach, mA]
  cases j with
  | zero =>
   simp at ht hd; subst ht hd; exact Or.inl hx
  | succ j => exact Or.inr (mem_weightsEach j t d (by simpa using ht) (by simpa using hd) hx)
theorem zA3 {x : Nat} {e : TypeId} : ∀ {ds : List (DataW H)} {d : DataW H}, d ∈ ds → x ∈ d.weights P e → x ∈ DataW.weightsAll P e ds
 | [], _, h, _ => by cases h
 | d' :: ds, d, h, hx => by
  rw [DataW.weightsAll, mA]
  rcases mI.1 h with rfl | h
  · exact Or.inl hx
  · exact Or.inr (zA3 h hx)
theorem zl1 {t : TypeId} {fs : Array Field} (ht : P.underlying t = some (.struct fs)) (hC : tiles P fs.toList 0 (P.cellsOf t) = true) {A : Nat → List AV → Prop}
 (hA : ∀ j f, fs[j]? = some f → OpensS enc P w base spare held N f.type (A j)) : OpensS enc P w base spare held (N + 1) t fun l => ∃ parts : List (List AV), l = parts.flatten ∧ parts.length = fs.size ∧ ∀ j, j < fs.size → A j (parts.getD j []) := by
 intro n cs y hy hN hs
 obtain ⟨ys, n', _, he, hlen, hyl, hf⟩ := DataW.trod_struct ht hy
 have hends : ∀ (l : List Field) (o e : Nat), tiles P l o e = true → o ≤ e ∧ ∀ (j : Nat) (f : Field), l[j]? = some f → f.offset + P.cellsOf f.type ≤ e := by
  intro l
  induction l with
  | nil => intro o e h; simp [tiles] at h; exact ⟨by omega, fun j f h => by simp at h⟩
  | cons f l ih =>
   intro o e h
   simp only [tiles, Bool.and_eq_true, beq_iff_eq] at h
   obtain ⟨h1, h2⟩ := ih _ _ h.2
   refine ⟨by omega, fun j g hg => ?_⟩
   cases j with
   | zero => simp at hg; subst hg; omega
   | succ j => exact h2 j g (by simpa using hg)
 obtain ⟨parts, p1, p2, p3, p4⟩ := tile (w := w) (cs := cs) (A := A) fs.toList 0 0 (P.cellsOf t) hC fun j f hj => by
  have hfj : fs[j]? = some f := by simpa using hj
  have hlt : j < fs.size := (Array.getElem?_eq_some_iff.1 hfj).1
  have h1 := hf j f hfj
  rw [List.getElem?_eq_getElem (by omega)] at h1
  have hend := (hends _ _ _ hC).2 j f hj
  have hm : ys[j]'(by omega) ∈ ys := List.getElem_mem _
  have hsz : SizeOf.sizeOf (ys[j]'(by omega)).1 < N := by
   have h2 : (ys[j]'(by omega)).1 ∈ ys.map (·.1) := List.mem_map_of_mem hm
   have h3 := List.sizeOf_lt_of_mem h2
   rw [he] at hN
   simp only [DataW.agg.sizeOf_spec] at hN
   omega
  obtain ⟨avs, e1, e2, e3⟩ := hA j f hfj _ _ _ h1 hsz fun x hx => hs x (by
   rw [he, DataW.weights, ht]
   exact mem_weightsEach j f.type _ (by simp [hj]) (by rw [List.getElem?_map, List.getElem?_eq_getElem (by omega)]; rfl) hx)
  have hl1 : avs.length = P.cellsOf f.type := by rw [e1, List.length_take, List.length_drop]; omega
  refine ⟨avs, hl1, by rw [nZ]; exact e2, fun i hi => ?_⟩
  have h4 := e3 i hi
  have h5 : ((cs.drop f.offset).take (P.cellsOf f.type)).getD i undef = cs.getD (f.offset + i) undef := by
   simp only [gG]
   rw [List.getElem?_take_of_lt (by omega), List.getElem?_drop]
  rw [h5] at h4; exact h4
 refine ⟨parts.flatten, by omega, ⟨parts, rfl, by simpa using p1, fun j hj => ?_⟩, fun i hi => ?_⟩
 · have := p2 j (by simpa using hj)
   rwa [nZ] at this
 · have := p4 i hi
   rwa [nZ] at this
theorem zF1 {t e : TypeId} (ht : P.underlying t = some (.slice e)) (hpos : 0 < P.cellsOf e) {A : List AV → Prop} (hA : OpensS enc P w base spare held N e A) :
 OpensS enc P w base spare held (N + 1) t fun l => ∃ es, l = [.ds true (List.flatten es) (lN es) false] ∧ (∀ x ∈ es, A x ∧ x.length = P.cellsOf e) ∧ es.length * P.bytesOf e ≤ reachBytes ∧ es.length ≤ maxLen := by
 intro n cs y hy hN hs
 rcases open_slice ht hy with ⟨rfl, _⟩ | ⟨a, len, cap, m, n', D, Pl, rfl, _, hl, hm, hmm, hye, hi⟩
 · refine ⟨[.ds true [] 0 false], rfl, ⟨[], by simp, by simp, by simp, by simp⟩, fun i hi => ?_⟩
   simp at hi; subst hi; exact .dsn _
 have hlm : len ≤ m := by rw [hmm]; split <;> omega
 have hlen : len * P.bytesOf e ≤ reachBytes := by
  have := hs ((((List.range len).map D).length + ((List.range (m - len)).map fun j => D (len + j)).length) * P.bytesOf e) (by rw [hye]; simp only [DataW.weights, ht]; exact mS ..)
  rw [lM, List.length_range] at this
  exact Nat.le_trans (Nat.mul_le_mul_right _ (Nat.le_add_right _ _)) this
 have each : ∀ i, i < len → ∃ avs : List AV, avs.length = P.cellsOf e ∧ A avs ∧ ∀ j, j < avs.length → ∃ v, w.cell? ((a.add (i * P.cellsOf e)).add j) = some v ∧ VR (Env.start w) (gc avs j) v := by
  intro i hil
  obtain ⟨cs', h1, h2⟩ := hi i (by omega)
  obtain ⟨_, hcl, hat⟩ := World.cells?_some h1
  have hmem : D i ∈ (List.range len).map D := List.mem_map_of_mem (List.mem_range.2 hil)
  have hsz : SizeOf.sizeOf (D i) < N := by
   have h3 := List.sizeOf_lt_of_mem hmem
   rw [hye] at hN
   simp only [DataW.slice.sizeOf_spec] at hN
   omega
  obtain ⟨avs, e1, e2, e3⟩ := hA _ _ _ h2 hsz fun x hx => hs x (by
   rw [hye]; simp only [DataW.weights, ht]
   exact mO _ (List.mem_append_left _ (zA3 hmem hx)))
  refine ⟨avs, by omega, e2, fun j hj => ⟨cs'.getD j undef, ?_, e3 j hj⟩⟩
  rw [hat j (by omega), gG, List.getElem?_eq_getElem (by omega)]; rfl
 obtain ⟨g, hg⟩ := Classical.axiomOfChoice (r := fun (i : Fin len) (avs : List AV) => avs.length = P.cellsOf e ∧ A avs ∧ ∀ j, j < avs.length → ∃ v, w.cell? ((a.add (i.1 * P.cellsOf e)).add j) = some v ∧ VR (Env.start w) (gc avs j) v) (fun i => each i.1 i.2)
 have hes : ∀ x ∈ List.ofFn g, A x ∧ x.length = P.cellsOf e := by
  intro x hx
  obtain ⟨i, rfl⟩ := List.mem_ofFn.1 hx
  exact ⟨(hg i).2.1, (hg i).1⟩
 refine ⟨[.ds true (List.ofFn g).flatten (List.ofFn g).length false], rfl, ⟨_, rfl, hes, by simpa using hlen, by simp; omega⟩, fun i hi => ?_⟩
 simp at hi; subst hi
 have hfl := length_flat (es := List.ofFn g) (sz := P.cellsOf e) fun x hx => (hes x hx).2
 have hsp : (List.ofFn g).flatten.length ≠ 0 → a.spot = none := by
  intro h0
  rw [hfl] at h0
  have hl0 : 0 < len := by
   rcases Nat.eq_zero_or_pos len with h | h
   · subst h; simp at h0
   · exact h
  obtain ⟨v, h1, _⟩ := (hg ⟨0, hl0⟩).2.2 0 (by rw [(hg ⟨0, hl0⟩).1]; exact hpos)
  have := World.cell?_spot h1
  simpa [Addr.add] using this
 have hcell : ∀ k, k < (List.ofFn g).flatten.length → ∃ v, w.cell? ⟨a.block, a.off + k, none⟩ = some v ∧ VR (Env.start w) (gc (List.ofFn g).flatten k) v := by
  intro k hk
  have hs := hsp (by omega)
  rw [hfl] at hk
  simp only [List.length_ofFn] at hk
  have hd : k / P.cellsOf e < len := Nat.div_lt_of_lt_mul (by rw [Nat.mul_comm]; exact hk)
  have hmd : k % P.cellsOf e < P.cellsOf e := Nat.mod_lt _ hpos
  have hsplit : k / P.cellsOf e * P.cellsOf e + k % P.cellsOf e = k := by rw [Nat.mul_comm]; exact Nat.div_add_mod _ _
  obtain ⟨v, h1, h2⟩ := (hg ⟨_, hd⟩).2.2 (k % P.cellsOf e) (by rw [(hg ⟨_, hd⟩).1]; exact hmd)
  refine ⟨v, ?_, ?_⟩
  · rw [add_spot hs, add_spot rfl] at h1
    simp only at h1
    rw [Nat.add_assoc, hsplit] at h1; exact h1
  · have := gc_flat (es := List.ofFn g) (fun x hx => (hes x hx).2) (k / P.cellsOf e) (k % P.cellsOf e) hmd (by simpa using hd)
    rw [hsplit] at this
    rw [this]; simpa using h2
 obtain ⟨vs, hvs⟩ : ∃ vs : Nat → Value, ∀ k, k < (List.ofFn g).flatten.length → w.cell? ⟨a.block, a.off + k, none⟩ = some (vs k) ∧ VR (Env.start w) (gc (List.ofFn g).flatten k) (vs k) := by
  refine ⟨fun k => (w.cell? ⟨a.block, a.off + k, none⟩).getD undef, fun k hk => ?_⟩
  obtain ⟨v, h1, h2⟩ := hcell k hk
  simp only [h1, Option.getD_some]; exact ⟨trivial, h2⟩
 show VR (Env.start w) (.ds true _ _ false) (.slice (some a) len cap)
 rw [List.length_ofFn]
 refine .ds _ _ _ _ a cap vs ?_ ?_ (fun k hk => (hvs k hk).2) hl (fun h => by cases h) ?_
 · by_cases h0 : (List.ofFn g).flatten.length = 0
   · exact .inl (lI.1 h0)
   · exact .inr (hsp h0)
 · by_cases h0 : (List.ofFn g).flatten.length = 0
   · exact .inl h0
   · refine .inr ⟨?_, fun k hk => (hvs k hk).1⟩
     obtain ⟨_, h, _⟩ := hcell 0 (by omega)
     exact cell_lt (a := ⟨a.block, a.off + 0, none⟩) h
 · unfold maxLen at *; omega
theorem OpensS.arg {t : TypeId} {A : List AV → Prop} (h : ∀ N, OpensS enc P w base spare held N t A) {v : Value} {d : DataW H} {p : List MemPlace} (hv : DataW.Trod enc P w base spare held t v d p) (hw : ∀ x ∈ d.weights P t, x ≤ reachBytes) (h1 : v.cells.toList = [v]) : ∃ a, A [a] ∧ VR (Env.start w) a v := by
 obtain ⟨n, hn⟩ := hv
 obtain ⟨avs, e1, e2, e3⟩ := h _ _ _ _ hn (nS _) hw
 rw [h1] at e1 e3
 match avs, e1 with
 | [a], _ => exact ⟨a, e2, by simpa [gc] using e3 0 (by simp)⟩
theorem OpensS.agg {t : TypeId} {A : List AV → Prop} (h : ∀ N, OpensS enc P w base spare held N t A) {vs : Array Value} {d : DataW H} {p : List MemPlace} (hv : DataW.Trod enc P w base spare held t (.agg vs) d p) (hw : ∀ x ∈ d.weights P t, x ≤ reachBytes) : ∃ l, A l ∧ VR (Env.start w) (.agg l) (.agg vs) := by
 obtain ⟨n, hn⟩ := hv
 obtain ⟨avs, e1, e2, e3⟩ := h _ _ _ _ hn (nS _) hw
 refine ⟨avs, e2, .agg _ _ (by simpa [Value.cells] using e1.symm) fun i hi => ?_⟩
 have := e3 i hi
 simpa [Value.cells, gG, Array.getD_eq_getD_getElem?] using this
end
end AM
open AM
theorem zJ3 {α : Type} {e : α → List AV} {p : α → Prop} {es : List (List AV)} (h : ∀ x ∈ es, ∃ y : α, x = e y ∧ p y) : ∃ zs : List α, es.flatten = zs.flatMap e ∧ zs.length = es.length ∧ ∀ z ∈ zs, p z := by
 induction es with
 | nil => exact ⟨[], rfl, rfl, fun z hz => by cases hz⟩
 | cons x es ih =>
  obtain ⟨zs, h1, h2, h3⟩ := ih fun y hy => h y (by simp [hy])
  obtain ⟨y, rfl, hp⟩ := h x (by simp)
  refine ⟨y :: zs, by simp [h1], by simp [h2], fun z hz => ?_⟩
  rcases mI.1 hz with rfl | hz
  · exact hp
  · exact h3 z hz
def in64 (n : Int) : Prop := -9223372036854775808 ≤ n ∧ n < 9223372036854775808
theorem wf64 {n : Int} (h : (Lit.int .i64 n).wf = true) : in64 n := by
 simp only [Lit.wf, IntKind.min, IntKind.max, IntKind.signed, IntKind.bits, Bool.and_eq_true, decide_eq_true_eq, if_true] at h
 unfold in64; omega
section
variable {H : Type} {enc : TypeId × Value → H} {w : World} {base : Nat} {spare : Nat → Bool} {held : Bool} {N : Nat}
theorem zr1 : OpensS enc Tryd.prog w base spare held N 3 fun x => ∃ n, x = [.int .i64 n] ∧ in64 n :=
 ((opens_int Tryd.underlying3).mono fun x ⟨n, h1, h2⟩ => ⟨n, h1, wf64 h2⟩).sized
theorem zE1 : OpensS enc Tryd.prog w base spare held N 9 fun x => ∃ s, x = [.str s] ∧ s.length ≤ 140737488351232 := opensS_string Tryd.underlying9
theorem opens_ints (N : Nat) : OpensS enc Tryd.prog w base spare held N 24 fun x => ∃ zs : List Int, x = [AV.ds true (zs.flatMap encI) zs.length false] ∧ zs.length * 8 ≤ 140737488351232 ∧ ∀ z ∈ zs, in64 z := by
 refine ((zF1 (N := N) Tryd.underlying24 (by decide +kernel) zr1).mono ?_).less
 rintro x ⟨es, rfl, h1, h2, _⟩
 obtain ⟨l, e1, e2, e3⟩ := zJ3 (e := encI) (p := in64) fun y hy => (h1 y hy).1
 rw [show Tryd.prog.bytesOf 3 = 8 by kernel_rfl] at h2
 exact ⟨l, by rw [e1, e2], by rw [e2]; exact h2, e3⟩
end
end Go.Proofs.YtaddlmlpeghonaaDoor
end
section
namespace Go.Proofs.YtaddlmlpeghonaaDoor
open AM
section
variable {H : Type} {enc : TypeId × Value → H} {w : World} {base : Nat} {spare : Nat → Bool} {held : Bool}
end
end Go.Proofs.YtaddlmlpeghonaaDoor
end
section
namespace Go.Proofs.YtaddlmlpeghonaaDoor
open AM
def okType (y : GType) : Prop := in64 y.fKind ∧ y.fName.length ≤ 140737488351232
def okField (y : GField) : Prop := y.fName.length ≤ 140737488351232 ∧ in64 y.fTag ∧ in64 y.fLabel ∧ okType y.fType
def zV3 (y : GMessage) : Prop := y.fName.length ≤ 140737488351232 ∧ (y.fFields.length * 56 ≤ 140737488351232 ∧ ∀ v ∈ y.fFields, okField v) ∧ (y.fReserved.length * 8 ≤ 140737488351232 ∧ ∀ v ∈ y.fReserved, in64 v)
def okNamed (y : GNamed) : Prop := y.fName.length ≤ 140737488351232 ∧ in64 y.fN
def zk2 (y : GEnumeration) : Prop := y.fName.length ≤ 140737488351232 ∧ (y.fValues.length * 24 ≤ 140737488351232 ∧ ∀ v ∈ y.fValues, okNamed v)
def zI4 (y : GMethod) : Prop := y.fName.length ≤ 140737488351232 ∧ y.fIn.length ≤ 140737488351232 ∧ y.fOut.length ≤ 140737488351232
def okSchema (y : GSchema) : Prop := y.fName.length ≤ 140737488351232 ∧ (y.fMessages.length * 64 ≤ 140737488351232 ∧ ∀ v ∈ y.fMessages, zV3 v) ∧ (y.fEnums.length * 40 ≤ 140737488351232 ∧ ∀ v ∈ y.fEnums, zk2 v) ∧ (y.fMethods.length * 48 ≤ 140737488351232 ∧ ∀ v ∈ y.fMethods, zI4 v)
def okPacket (y : GPacket) : Prop := in64 y.fKind ∧ in64 y.fFrom ∧ in64 y.fTo ∧ in64 y.fID ∧ in64 y.fVersion ∧ y.fMethod.length ≤ 140737488351232 ∧ in64 y.fErr ∧ y.fBody.length ≤ 140737488351232
section
variable {H : Type} {enc : TypeId × Value → H} {w : World} {base : Nat} {spare : Nat → Bool} {held : Bool}
theorem opens_Type (N : Nat) : OpensS enc Tryd.prog w base spare held N 50 fun x => ∃ y : GType, x = encGType y ∧ okType y := by
 refine ((zl1 (N := N) (A := fun j x => if j = 0 then ∃ z : Int, x = [.int .i64 z] ∧ in64 z else if j = 1 then ∃ z : List UInt8, x = [.str z] ∧ z.length ≤ 140737488351232 else False) Tryd.underlying50 (by decide +kernel) ?_).mono ?_).less
 · intro j f hf
   match j with
   | 0 => cases hf; exact zr1
   | 1 => cases hf; exact zE1
   | j + 2 => simp at hf
 · rintro x ⟨parts, rfl, hl, hx⟩
   obtain ⟨a0, e0, w0⟩ := hx 0 (by decide)
   obtain ⟨a1, e1, w1⟩ := hx 1 (by decide)
   refine ⟨⟨a0, a1⟩, ?_, w0, w1⟩
   match parts, hl with
   | [p0, p1], _ =>
    simp only [List.getD_cons_zero, List.getD_cons_succ] at e0 e1
    subst e0 e1; rfl
theorem opens_Field (N : Nat) : OpensS enc Tryd.prog w base spare held N 52 fun x => ∃ y : GField, x = encGField y ∧ okField y := by
 refine ((zl1 (N := N) (A := fun j x => if j = 0 then ∃ z : List UInt8, x = [.str z] ∧ z.length ≤ 140737488351232 else if j = 1 then ∃ z : Int, x = [.int .i64 z] ∧ in64 z else if j = 2 then ∃ z : Int, x = [.int .i64 z] ∧ in64 z else if j = 3 then ∃ z : GType, x = encGType z ∧ okType z else False) Tryd.underlying52 (by decide +kernel) ?_).mono ?_).less
 · intro j f hf
   match j with
   | 0 => cases hf; exact zE1
   | 1 => cases hf; exact zr1
   | 2 => cases hf; exact zr1
   | 3 => cases hf; exact opens_Type N
   | j + 4 => simp at hf
 · rintro x ⟨parts, rfl, hl, hx⟩
   obtain ⟨a0, e0, w0⟩ := hx 0 (by decide)
   obtain ⟨a1, e1, w1⟩ := hx 1 (by decide)
   obtain ⟨a2, e2, w2⟩ := hx 2 (by decide)
   obtain ⟨a3, e3, w3⟩ := hx 3 (by decide)
   refine ⟨⟨a0, a1, a2, a3⟩, ?_, w0, w1, w2, w3⟩
   match parts, hl with
   | [p0, p1, p2, p3], _ =>
    simp only [List.getD_cons_zero, List.getD_cons_succ] at e0 e1 e2 e3
    subst e0 e1 e2 e3; rfl
theorem opens_Fields (N : Nat) : OpensS enc Tryd.prog w base spare held N 23 fun x => ∃ zs : List GField, x = [AV.ds true (zs.flatMap encGField) zs.length false] ∧ zs.length * 56 ≤ 140737488351232 ∧ ∀ y ∈ zs, okField y := by
 refine ((zF1 (N := N) Tryd.underlying23 (by decide +kernel) (opens_Field N)).mono ?_).less
 rintro x ⟨es, rfl, h1, h2, _⟩
 obtain ⟨l, e1, e2, e3⟩ := zJ3 fun y hy => (h1 y hy).1
 rw [show Tryd.prog.bytesOf 52 = 56 by kernel_rfl] at h2
 exact ⟨l, by rw [e1, e2], by rw [e2]; exact h2, e3⟩
theorem opens_Message (N : Nat) : OpensS enc Tryd.prog w base spare held N 26 fun x => ∃ y : GMessage, x = encGMessage y ∧ zV3 y := by
 refine ((zl1 (N := N) (A := fun j x => if j = 0 then ∃ z : List UInt8, x = [.str z] ∧ z.length ≤ 140737488351232 else if j = 1 then ∃ z : List GField, x = [AV.ds true (fM encGField z) (lN z) false] ∧ (z.length * 56 ≤ 140737488351232 ∧ ∀ v ∈ z, okField v) else if j = 2 then ∃ z : List Int, x = [AV.ds true (fM encI z) (lN z) false] ∧ (z.length * 8 ≤ 140737488351232 ∧ ∀ v ∈ z, in64 v) else False) Tryd.underlying26 (by decide +kernel) ?_).mono ?_).less
 · intro j f hf
   match j with
   | 0 => cases hf; exact zE1
   | 1 => cases hf; exact opens_Fields N
   | 2 => cases hf; exact opens_ints N
   | j + 3 => simp at hf
 · rintro x ⟨parts, rfl, hl, hx⟩
   obtain ⟨a0, e0, w0⟩ := hx 0 (by decide)
   obtain ⟨a1, e1, w1⟩ := hx 1 (by decide)
   obtain ⟨a2, e2, w2⟩ := hx 2 (by decide)
   refine ⟨⟨a0, a1, a2⟩, ?_, w0, w1, w2⟩
   match parts, hl with
   | [p0, p1, p2], _ =>
    simp only [List.getD_cons_zero, List.getD_cons_succ] at e0 e1 e2
    subst e0 e1 e2; rfl
theorem opens_Messages (N : Nat) : OpensS enc Tryd.prog w base spare held N 27 fun x => ∃ zs : List GMessage, x = [AV.ds true (zs.flatMap encGMessage) zs.length false] ∧ zs.length * 64 ≤ 140737488351232 ∧ ∀ y ∈ zs, zV3 y := by
 refine ((zF1 (N := N) Tryd.underlying27 (by decide +kernel) (opens_Message N)).mono ?_).less
 rintro x ⟨es, rfl, h1, h2, _⟩
 obtain ⟨l, e1, e2, e3⟩ := zJ3 fun y hy => (h1 y hy).1
 rw [show Tryd.prog.bytesOf 26 = 64 by kernel_rfl] at h2
 exact ⟨l, by rw [e1, e2], by rw [e2]; exact h2, e3⟩
theorem opens_Named (N : Nat) : OpensS enc Tryd.prog w base spare held N 92 fun x => ∃ y : GNamed, x = encGNamed y ∧ okNamed y := by
 refine ((zl1 (N := N) (A := fun j x => if j = 0 then ∃ z : List UInt8, x = [.str z] ∧ z.length ≤ 140737488351232 else if j = 1 then ∃ z : Int, x = [.int .i64 z] ∧ in64 z else False) Tryd.underlying92 (by decide +kernel) ?_).mono ?_).less
 · intro j f hf
   match j with
   | 0 => cases hf; exact zE1
   | 1 => cases hf; exact zr1
   | j + 2 => simp at hf
 · rintro x ⟨parts, rfl, hl, hx⟩
   obtain ⟨a0, e0, w0⟩ := hx 0 (by decide)
   obtain ⟨a1, e1, w1⟩ := hx 1 (by decide)
   refine ⟨⟨a0, a1⟩, ?_, w0, w1⟩
   match parts, hl with
   | [p0, p1], _ =>
    simp only [List.getD_cons_zero, List.getD_cons_succ] at e0 e1
    subst e0 e1; rfl
theorem opens_Nameds (N : Nat) : OpensS enc Tryd.prog w base spare held N 88 fun x => ∃ zs : List GNamed, x = [AV.ds true (zs.flatMap encGNamed) zs.length false] ∧ zs.length * 24 ≤ 140737488351232 ∧ ∀ y ∈ zs, okNamed y := by
 refine ((zF1 (N := N) Tryd.underlying88 (by decide +kernel) (opens_Named N)).mono ?_).less
 rintro x ⟨es, rfl, h1, h2, _⟩
 obtain ⟨l, e1, e2, e3⟩ := zJ3 fun y hy => (h1 y hy).1
 rw [show Tryd.prog.bytesOf 92 = 24 by kernel_rfl] at h2
 exact ⟨l, by rw [e1, e2], by rw [e2]; exact h2, e3⟩
theorem zo4 (N : Nat) : OpensS enc Tryd.prog w base spare held N 90 fun x => ∃ y : GEnumeration, x = encGEnumeration y ∧ zk2 y := by
 refine ((zl1 (N := N) (A := fun j x => if j = 0 then ∃ z : List UInt8, x = [.str z] ∧ z.length ≤ 140737488351232 else if j = 1 then ∃ z : List GNamed, x = [AV.ds true (fM encGNamed z) (lN z) false] ∧ (z.length * 24 ≤ 140737488351232 ∧ ∀ v ∈ z, okNamed v) else False) Tryd.underlying90 (by decide +kernel) ?_).mono ?_).less
 · intro j f hf
   match j with
   | 0 => cases hf; exact zE1
   | 1 => cases hf; exact opens_Nameds N
   | j + 2 => simp at hf
 · rintro x ⟨parts, rfl, hl, hx⟩
   obtain ⟨a0, e0, w0⟩ := hx 0 (by decide)
   obtain ⟨a1, e1, w1⟩ := hx 1 (by decide)
   refine ⟨⟨a0, a1⟩, ?_, w0, w1⟩
   match parts, hl with
   | [p0, p1], _ =>
    simp only [List.getD_cons_zero, List.getD_cons_succ] at e0 e1
    subst e0 e1; rfl
theorem zS3 (N : Nat) : OpensS enc Tryd.prog w base spare held N 28 fun x => ∃ zs : List GEnumeration, x = [AV.ds true (zs.flatMap encGEnumeration) zs.length false] ∧ zs.length * 40 ≤ 140737488351232 ∧ ∀ y ∈ zs, zk2 y := by
 refine ((zF1 (N := N) Tryd.underlying28 (by decide +kernel) (zo4 N)).mono ?_).less
 rintro x ⟨es, rfl, h1, h2, _⟩
 obtain ⟨l, e1, e2, e3⟩ := zJ3 fun y hy => (h1 y hy).1
 rw [show Tryd.prog.bytesOf 90 = 40 by kernel_rfl] at h2
 exact ⟨l, by rw [e1, e2], by rw [e2]; exact h2, e3⟩
theorem opens_Method (N : Nat) : OpensS enc Tryd.prog w base spare held N 73 fun x => ∃ y : GMethod, x = encGMethod y ∧ zI4 y := by
 refine ((zl1 (N := N) (A := fun j x => if j = 0 then ∃ z : List UInt8, x = [.str z] ∧ z.length ≤ 140737488351232 else if j = 1 then ∃ z : List UInt8, x = [.str z] ∧ z.length ≤ 140737488351232 else if j = 2 then ∃ z : List UInt8, x = [.str z] ∧ z.length ≤ 140737488351232 else False) Tryd.underlying73 (by decide +kernel) ?_).mono ?_).less
 · intro j f hf
   match j with
   | 0 => cases hf; exact zE1
   | 1 => cases hf; exact zE1
   | 2 => cases hf; exact zE1
   | j + 3 => simp at hf
 · rintro x ⟨parts, rfl, hl, hx⟩
   obtain ⟨a0, e0, w0⟩ := hx 0 (by decide)
   obtain ⟨a1, e1, w1⟩ := hx 1 (by decide)
   obtain ⟨a2, e2, w2⟩ := hx 2 (by decide)
   refine ⟨⟨a0, a1, a2⟩, ?_, w0, w1, w2⟩
   match parts, hl with
   | [p0, p1, p2], _ =>
    simp only [List.getD_cons_zero, List.getD_cons_succ] at e0 e1 e2
    subst e0 e1 e2; rfl
theorem opens_Methods (N : Nat) : OpensS enc Tryd.prog w base spare held N 29 fun x => ∃ zs : List GMethod, x = [AV.ds true (zs.flatMap encGMethod) zs.length false] ∧ zs.length * 48 ≤ 140737488351232 ∧ ∀ y ∈ zs, zI4 y := by
 refine ((zF1 (N := N) Tryd.underlying29 (by decide +kernel) (opens_Method N)).mono ?_).less
 rintro x ⟨es, rfl, h1, h2, _⟩
 obtain ⟨l, e1, e2, e3⟩ := zJ3 fun y hy => (h1 y hy).1
 rw [show Tryd.prog.bytesOf 73 = 48 by kernel_rfl] at h2
 exact ⟨l, by rw [e1, e2], by rw [e2]; exact h2, e3⟩
theorem opens_Schema (N : Nat) : OpensS enc Tryd.prog w base spare held N 31 fun x => ∃ y : GSchema, x = encGSchema y ∧ okSchema y := by
 refine ((zl1 (N := N) (A := fun j x => if j = 0 then ∃ z : List UInt8, x = [.str z] ∧ z.length ≤ 140737488351232 else if j = 1 then ∃ z : List GMessage, x = [AV.ds true (fM encGMessage z) (lN z) false] ∧ (z.length * 64 ≤ 140737488351232 ∧ ∀ v ∈ z, zV3 v) else if j = 2 then ∃ z : List GEnumeration, x = [AV.ds true (fM encGEnumeration z) (lN z) false] ∧ (z.length * 40 ≤ 140737488351232 ∧ ∀ v ∈ z, zk2 v) else if j = 3 then ∃ z : List GMethod, x = [AV.ds true (fM encGMethod z) (lN z) false] ∧ (z.length * 48 ≤ 140737488351232 ∧ ∀ v ∈ z, zI4 v) else False) Tryd.underlying31 (by decide +kernel) ?_).mono ?_).less
 · intro j f hf
   match j with
   | 0 => cases hf; exact zE1
   | 1 => cases hf; exact opens_Messages N
   | 2 => cases hf; exact zS3 N
   | 3 => cases hf; exact opens_Methods N
   | j + 4 => simp at hf
 · rintro x ⟨parts, rfl, hl, hx⟩
   obtain ⟨a0, e0, w0⟩ := hx 0 (by decide)
   obtain ⟨a1, e1, w1⟩ := hx 1 (by decide)
   obtain ⟨a2, e2, w2⟩ := hx 2 (by decide)
   obtain ⟨a3, e3, w3⟩ := hx 3 (by decide)
   refine ⟨⟨a0, a1, a2, a3⟩, ?_, w0, w1, w2, w3⟩
   match parts, hl with
   | [p0, p1, p2, p3], _ =>
    simp only [List.getD_cons_zero, List.getD_cons_succ] at e0 e1 e2 e3
    subst e0 e1 e2 e3; rfl
theorem opens_Schemas (N : Nat) : OpensS enc Tryd.prog w base spare held N 75 fun x => ∃ zs : List GSchema, x = [AV.ds true (zs.flatMap encGSchema) zs.length false] ∧ zs.length * 88 ≤ 140737488351232 ∧ ∀ y ∈ zs, okSchema y := by
 refine ((zF1 (N := N) Tryd.underlying75 (by decide +kernel) (opens_Schema N)).mono ?_).less
 rintro x ⟨es, rfl, h1, h2, _⟩
 obtain ⟨l, e1, e2, e3⟩ := zJ3 fun y hy => (h1 y hy).1
 rw [show Tryd.prog.bytesOf 31 = 88 by kernel_rfl] at h2
 exact ⟨l, by rw [e1, e2], by rw [e2]; exact h2, e3⟩
theorem opens_Packet (N : Nat) : OpensS enc Tryd.prog w base spare held N 64 fun x => ∃ y : GPacket, x = encGPacket y ∧ okPacket y := by
 refine ((zl1 (N := N) (A := fun j x => if j = 0 then ∃ z : Int, x = [.int .i64 z] ∧ in64 z else if j = 1 then ∃ z : Int, x = [.int .i64 z] ∧ in64 z else if j = 2 then ∃ z : Int, x = [.int .i64 z] ∧ in64 z else if j = 3 then ∃ z : Int, x = [.int .i64 z] ∧ in64 z else if j = 4 then ∃ z : Int, x = [.int .i64 z] ∧ in64 z else if j = 5 then ∃ z : List UInt8, x = [.str z] ∧ z.length ≤ 140737488351232 else if j = 6 then ∃ z : Int, x = [.int .i64 z] ∧ in64 z else if j = 7 then ∃ z : List UInt8, x = [.str z] ∧ z.length ≤ 140737488351232 else False) Tryd.underlying64 (by decide +kernel) ?_).mono ?_).less
 · intro j f hf
   match j with
   | 0 => cases hf; exact zr1
   | 1 => cases hf; exact zr1
   | 2 => cases hf; exact zr1
   | 3 => cases hf; exact zr1
   | 4 => cases hf; exact zr1
   | 5 => cases hf; exact zE1
   | 6 => cases hf; exact zr1
   | 7 => cases hf; exact zE1
   | j + 8 => simp at hf
 · rintro x ⟨parts, rfl, hl, hx⟩
   obtain ⟨a0, e0, w0⟩ := hx 0 (by decide)
   obtain ⟨a1, e1, w1⟩ := hx 1 (by decide)
   obtain ⟨a2, e2, w2⟩ := hx 2 (by decide)
   obtain ⟨a3, e3, w3⟩ := hx 3 (by decide)
   obtain ⟨a4, e4, w4⟩ := hx 4 (by decide)
   obtain ⟨a5, e5, w5⟩ := hx 5 (by decide)
   obtain ⟨a6, e6, w6⟩ := hx 6 (by decide)
   obtain ⟨a7, e7, w7⟩ := hx 7 (by decide)
   refine ⟨⟨a0, a1, a2, a3, a4, a5, a6, a7⟩, ?_, w0, w1, w2, w3, w4, w5, w6, w7⟩
   match parts, hl with
   | [p0, p1, p2, p3, p4, p5, p6, p7], _ =>
    simp only [List.getD_cons_zero, List.getD_cons_succ] at e0 e1 e2 e3 e4 e5 e6 e7
    subst e0 e1 e2 e3 e4 e5 e6 e7; rfl
end
end Go.Proofs.YtaddlmlpeghonaaDoor
end
section
namespace Go.Proofs.YtaddlmlpeghonaaDoor
open AM
section
variable {H : Type} {enc : TypeId × Value → H} {w : World} {base : Nat} {spare : Nat → Bool} {held : Bool}
end
theorem szS_of {s : GSchema} (h : okSchema s) : szS s :=
 ⟨⟨h.1, fun m hm => ⟨(h.2.1.2 m hm).1, fun f hf => ((h.2.1.2 m hm).2.1.2 f hf).1⟩, fun e he => ⟨(h.2.2.1.2 e he).1, fun v hv => ((h.2.2.1.2 e he).2.2 v hv).1⟩, fun x hx => (h.2.2.2.2 x hx).1⟩,
  h.2.1.1, h.2.2.1.1, h.2.2.2.1, fun m hm => ⟨(h.2.1.2 m hm).2.1.1, (h.2.1.2 m hm).2.2.1⟩, fun e he => (h.2.2.1.2 e he).2.1⟩
end Go.Proofs.YtaddlmlpeghonaaDoor
end
