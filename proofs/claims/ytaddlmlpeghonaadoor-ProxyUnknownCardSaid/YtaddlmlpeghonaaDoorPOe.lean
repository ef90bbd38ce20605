/- Parts of the proof, cut down to what it needs. -/
import Derived.Test.YtaddlmlpeghonaaDoorPSk
import Derived.Test.YtaddlmlpeghonaaDoorPCc
import Derived.Test.YtaddlmlpeghonaaDoorRows
import Derived.Test.YtaddlmlpeghonaaDoorChecked
import Derived.Test.YtaddlmlpeghonaaDoorTie
import Derived.ProofKit
import Derived.OpenShut
import Derived.ShutString
import Derived.ChangeOld
import Derived.ChangeSame
import Derived.ChangeVars
import Derived.JoinedOf
import Derived.RowKit
import Derived.LaidLaws
import Derived.LaidHandle
import Derived.Lib.LaidIn
import Derived.Lib.LaidU8T
import Derived.SevenTiedAt
set_option linter.constructorNameAsVariable false
set_option linter.unusedSimpArgs false
set_option linter.unusedVariables false
open List renaming length → lN, flatMap → fM, length_append → lP, length_cons → lC, length_nil → lZ, mem_cons_of_mem → mO, mem_cons_self → mS, append_assoc → aA, getD_eq_getElem?_getD → gG, append_nil → aN, map_nil → mN, map_cons → mC, nil_append → nA, flatMap_append → fA, flatMap_nil → fZ, flatMap_cons → fC, mem_append → mA, cons_append → cA, pairwise_cons → pC, length_map → lM, drop_zero → dZ, getElem?_append_right → gR, getElem?_append_left → gL, map_append → mP, length_eq_zero_iff → lI, mem_cons → mI
open Option renaming bind_some → bS, some.injEq → sI
open Nat renaming reduceLT → rL, reduceLeDiff → rD, reduceEqDiff → rE, reduceAdd → rA, reduceMul → rM, reduceSub → rS, zero_add → nZ, le_refl → nR, lt_succ_self → nS
section
set_option maxRecDepth 4000
namespace Go.Proofs.YtaddlmlpeghonaaDoor
open AM
theorem getD_of {l : List GRaw} (h : ∀ r ∈ l, zb2 r) (hb : (zY l).length ≤ 4096) : getD (zY l) = (l, 0) := by
 unfold getD; rw [wire_Get_ok h hb]; rfl
def okV (f : GMessage → GTree → Prop) (s : GSchema) (y : GType) (x : GTree) : Prop :=
 if y.fKind = 7 then x.fKind = 3 ∧ f (zw4 s y.fName) x
 else if y.fKind = 4 ∨ y.fKind = 5 then x = ⟨2, 0, x.fS, [], []⟩ ∧ x.fS.length ≤ 4096 ∧ (y.fKind = 4 → zi5 x.fS = true)
 else x = ⟨1, x.fN, [], [], []⟩ ∧ In64 x.fN ∧ (y.fKind = 3 ∨ y.fKind = 6 → valid_Number y x.fN = true)
def okN (f : GMessage → GTree → Prop) (s : GSchema) (m : GMessage) (e : GEntry) : Prop :=
 (1 ≤ e.fTag ∧ e.fTag ≤ 500) ∧ (check_Field m e.fTag).2 = true ∧ (1 ≤ e.fTrees.length ∧ e.fTrees.length ≤ 64) ∧ ((check_Field m e.fTag).1.fLabel ≠ 3 → e.fTrees.length = 1) ∧ ∀ x ∈ e.fTrees, okV f s (check_Field m e.fTag).1.fType x
def okT (s : GSchema) : Nat → GMessage → GTree → Prop
 | 0, _, _ => False
 | d + 1, m, t => t.fKind = 3 ∧ t.fN = 0 ∧ t.fS = [] ∧ t.fEntries.Pairwise ze3 ∧ (∀ e ∈ t.fEntries, okN (okT s d) s m e ∧ isZ m e = false) ∧ t.fRest.Pairwise TagLe ∧ t.fRest.length ≤ 4096 ∧ ∀ r ∈ t.fRest, zb2 r ∧ (check_Field m r.fTag).2 ≠ true
def kindT (y : GType) : Int := if y.fKind = 7 then 3 else if y.fKind = 4 ∨ y.fKind = 5 then 2 else 1
theorem gt_kind (k n : Int) (s : List UInt8) (e : List GEntry) (r : List GRaw) : (GTree.mk k n s e r).fKind = k := rfl
theorem gt_s (k n : Int) (s : List UInt8) (e : List GEntry) (r : List GRaw) : (GTree.mk k n s e r).fS = s := rfl
theorem gt_es (k n : Int) (s : List UInt8) (e : List GEntry) (r : List GRaw) : (GTree.mk k n s e r).fEntries = e := rfl
theorem gt_rest (k n : Int) (s : List UInt8) (e : List GEntry) (r : List GRaw) : (GTree.mk k n s e r).fRest = r := rfl
theorem okV_kind {f : GMessage → GTree → Prop} {s : GSchema} {y : GType} {x : GTree} (h : okV f s y x) : x.fKind = kindT y := by
 unfold okV at h; unfold kindT
 by_cases h7 : y.fKind = 7
 · rw [if_pos h7] at h ⊢; exact h.1
 · rw [if_neg h7] at h ⊢
   by_cases h4 : y.fKind = 4 ∨ y.fKind = 5
   · rw [if_pos h4] at h ⊢; rw [h.1]; rfl
   · rw [if_neg h4] at h ⊢; rw [h.1]; rfl
theorem okV_leaf {f : GMessage → GTree → Prop} {s : GSchema} {y : GType} {x : GTree} (h : okV f s y x) (h7 : y.fKind ≠ 7) : x.fEntries = [] ∧ x.fRest = [] ∧ In64 x.fN ∧ leafB x = true ∧ x.fKind ≠ 3 := by
 unfold okV at h
 rw [if_neg h7] at h
 split at h
 · rw [h.1]
   exact ⟨rfl, rfl, in0, rfl, by rw [gt_kind]; decide⟩
 · refine ⟨by rw [h.1]; rfl, by rw [h.1]; rfl, h.2.1, ?_, by rw [h.1, gt_kind]; decide⟩
   rw [h.1]; rfl
theorem kids_nil {x : GTree} (h : x.fEntries = []) : kids x = [] := by unfold kids; rw [h]; rfl
theorem szT_leaf {x : GTree} (h1 : x.fEntries = []) (h2 : x.fRest = []) (h3 : In64 x.fN) : ∀ d, szT d x
 | 0 => ⟨h3, by rw [h2]; exact Nat.zero_le _, by rw [h2]; intro r hr; cases hr⟩
 | d + 1 => ⟨⟨h3, by rw [h2]; exact Nat.zero_le _, by rw [h2]; intro r hr; cases hr⟩, by rw [kids_nil h1]; intro x hx; cases hx⟩
theorem okT_sz {s : GSchema} : ∀ (d n : Nat) (m : GMessage) (t : GTree), d ≤ n → okT s d m t → szT n t
 | 0, _, _, _, _, h => h.elim
 | d + 1, 0, _, _, h, _ => absurd h (by omega)
 | d + 1, n + 1, m, t, hn, h => by
  obtain ⟨_, h0, _, _, he, _, hl, hr⟩ := h
  refine ⟨⟨by rw [h0]; exact in0, by omega, fun r hm => (hr r hm).1.2⟩, fun x hx => ?_⟩
  obtain ⟨e, hm, hxe⟩ := List.mem_flatMap.1 hx
  have hv := (he e hm).1.2.2.2.2 x hxe
  by_cases h7 : (check_Field m e.fTag).1.fType.fKind = 7
  · unfold okV at hv; rw [if_pos h7] at hv
    exact okT_sz d n _ x (by omega) hv.2
  · obtain ⟨a, b, c, _, _⟩ := okV_leaf hv h7
    exact szT_leaf a b c n
theorem leafB_right {x : GTree} (h : leafB x = true) (h3 : x.fKind ≠ 3) : ∀ d, zn1 d x = true
 | 0 => h
 | d + 1 => by rw [zn1, if_neg h3]; exact h
theorem okT_ents {d : Nat} {s : GSchema} {m : GMessage} {f : GTree → Bool} (hf : ∀ y x, okV (okT s d) s y x → f x = true) : ∀ {l : List GEntry} {last : Int}, l.Pairwise ze3 → (∀ e ∈ l, last < e.fTag) → (∀ e ∈ l, okN (okT s d) s m e) → entB f last l = true
 | [], _, _, _, _ => rfl
 | e :: l, last, hs, hlt, he => by
  rw [pC] at hs
  obtain ⟨⟨h1, h2⟩, h3, h4, h5, h6⟩ := he e (mS ..)
  rw [entB, okT_ents hf hs.2 (fun a ha => hs.1 a ha) fun a ha => he a (mO _ ha), Bool.and_true, Bool.and_eq_true, decide_eq_true_eq]
  refine ⟨⟨hlt e (mS ..), h2, h4.1, h4.2⟩, List.all_eq_true.2 fun x hx => ?_⟩
  rw [Bool.and_eq_true, decide_eq_true_eq]
  refine ⟨?_, hf _ x (h6 x hx)⟩
  rw [okV_kind (h6 x hx)]
  cases ht : e.fTrees with
  | nil => rw [ht] at hx; cases hx
  | cons a l => rw [List.headD_cons]; exact (okV_kind (h6 a (by rw [ht]; exact mS ..))).symm
theorem okT_right {s : GSchema} : ∀ (d n : Nat) (m : GMessage) (t : GTree), d ≤ n → okT s d m t → zn1 n t = true
 | 0, _, _, _, _, h => h.elim
 | d + 1, 0, _, _, h, _ => absurd h (by omega)
 | d + 1, n + 1, m, t, hn, h => by
  obtain ⟨h3, h0, hS, hs, he, hrs, _, hr⟩ := h
  rw [zn1, if_pos h3]
  have e1 : entB (zn1 n) 0 t.fEntries = true := by
   refine okT_ents (m := m) (d := d) (s := s) ?_ hs (fun e hm => by have := (he e hm).1.1; omega) fun e hm => (he e hm).1
   intro y x hv
   by_cases h7 : y.fKind = 7
   · unfold okV at hv; rw [if_pos h7] at hv
     exact okT_right d n _ x (by omega) hv.2
   · obtain ⟨_, _, _, d1, e1⟩ := okV_leaf hv h7
     exact leafB_right d1 e1 n
  have e2 : restB t = true := by
   unfold restB
   rw [Bool.and_eq_true]
   refine ⟨List.all_eq_true.2 fun r hm => ?_, risB_iff.2 hrs⟩
   obtain ⟨⟨a, _⟩, b⟩ := hr r hm
   rw [a, Bool.true_and, Bool.not_eq_true', List.any_eq_false]
   intro e hme hc
   rw [decide_eq_true_eq] at hc
   exact b (by rw [← hc]; exact (he e hme).1.2.1)
  rw [e1, e2, decide_eq_true h0, decide_eq_true hS]; rfl
theorem okT_dep {s : GSchema} : ∀ (d n : Nat) (m : GMessage) (t : GTree), okT s d m t → depT n t ≤ d
 | 0, _, _, _, h => h.elim
 | d + 1, 0, _, _, _ => Nat.zero_le _
 | d + 1, n + 1, m, t, h => by
  rw [depT]
  split
  · refine Nat.succ_le_succ (zv5 (Nat.zero_le _) fun x hx => ?_)
    obtain ⟨e, hm, hxe⟩ := List.mem_flatMap.1 hx
    have hv := (h.2.2.2.2.1 e hm).1.2.2.2.2 x hxe
    by_cases h7 : (check_Field m e.fTag).1.fType.fKind = 7
    · unfold okV at hv; rw [if_pos h7] at hv
      exact okT_dep d n _ x hv.2
    · obtain ⟨_, _, _, _, e1⟩ := okV_leaf hv h7
      cases n with
      | zero => exact Nat.zero_le _
      | succ n => rw [depT, if_neg e1]; exact Nat.zero_le _
  · exact Nat.zero_le _
theorem okT_check {s : GSchema} {d : Nat} {m : GMessage} {t : GTree} (hd : d ≤ 10) (h : okT s d m t) : zZ1 t = true := by
 have := okT_dep d 101 m t h
 rw [zZ1, decide_eq_true (by omega), Bool.true_and]
 exact okT_right d 10 m t hd h
theorem gr_wire (a b c : Int) (d : List UInt8) : (GRaw.mk a b c d).fWire = b := rfl
theorem gr_b (a b c : Int) (d : List UInt8) : (GRaw.mk a b c d).fB = d := rfl
theorem oneD_wire {msg : GMessage → List UInt8 → GTree × Int} {s : GSchema} {y : GType} {r : GRaw} (h : (y.fKind = 4 ∨ y.fKind = 5 ∨ y.fKind = 7) ∧ r.fWire = 1 ∨ ¬ (y.fKind = 4 ∨ y.fKind = 5 ∨ y.fKind = 7) ∧ r.fWire = 0) :
 oneD msg s y r = (if y.fKind = 3 ∨ y.fKind = 6 then (if valid_Number y r.fN = true then (⟨1, r.fN, [], [], []⟩, 0) else (zi2, 11))
 else if y.fKind = 4 then (if zi5 r.fB = true then (⟨2, 0, r.fB, [], []⟩, 0) else (zi2, 9))
 else if y.fKind = 7 then msg (zw4 s y.fName) r.fB
 else (if r.fWire = 1 then ⟨2, 0, r.fB, [], []⟩ else ⟨1, r.fN, [], [], []⟩, 0)) := by
 unfold oneD
 refine if_pos ?_
 rcases h with ⟨h, h'⟩ | ⟨h, h'⟩
 · rw [if_pos h]; exact h'
 · rw [if_neg h]; exact h'
theorem fldD_unk {m : GMessage} {one : GType → GRaw → GTree × Int} {B : List GRaw} {es : List GEntry} : ∀ {A rest : List GRaw}, (∀ r ∈ A, (check_Field m r.fTag).2 ≠ true) → fldD m one (A ++ B) es rest = fldD m one B es (rest ++ A)
 | [], rest, _ => by rw [aN]; rfl
 | r :: A, rest, h => by
  rw [cA, fldD, if_neg (h r (mS ..)), fldD_unk fun x hx => h x (mO _ hx), aA]; rfl
end Go.Proofs.YtaddlmlpeghonaaDoor
end
section
set_option maxRecDepth 4000
namespace Go.Proofs.YtaddlmlpeghonaaDoor
open AM
theorem insR_bytes (r : GRaw) : ∀ l : List GRaw, (zY (insR r l)).length = (rawB r).length + (zY l).length
 | [] => by rw [insR, zg1, lP]
 | x :: l => by
  rw [insR]; split
  · rw [zg1, lP]
  · rw [zg1, lP, insR_bytes r l, zg1, lP]; omega
theorem srtA_bytes : ∀ l S : List GRaw, (zY (srtA l S)).length = (zY S).length + (zY l).length
 | [], S => rfl
 | r :: l, S => by rw [srtA, srtA_bytes, insR_bytes, zg1, lP]; omega
theorem srt_bytes (l : List GRaw) : (zY (srt l)).length = (zY l).length := by rw [srt, srtA_bytes]; exact nZ _
theorem vb_mono {a b : Nat} (h : a ≤ b) : (vb a).length ≤ (vb b).length := by
 induction b using Nat.strongRecOn generalizing a with
 | ind b ih =>
  by_cases ha : a < 128
  · rw [vb_lt ha]; exact vb_pos b
  · rw [vb_ge ha, vb_ge (n := b) (by omega), lC, lC]
    exact Nat.succ_le_succ (ih (b / 128) (by omega) (Nat.div_le_div_right h))
theorem rawL_app {enc : GTree → Option (List UInt8)} {tag : Int} {x : GTree} {q : GRaw} (hq : rawT enc tag x = some q) : ∀ {l : List GTree} {L : List GRaw}, rawL enc tag l = some L → rawL enc tag (l ++ [x]) = some (L ++ [q])
 | [], L, h => by
  cases h
  rw [nA, rawL, hq]; rfl
 | y :: l, L, h => by
  obtain ⟨r, hr, h⟩ := bind_some h
  obtain ⟨L', hL, h⟩ := bind_some h
  cases h
  rw [cA, rawL, hr, bS, rawL_app hq hL]; rfl
theorem rawE_put {enc : GTree → Option (List UInt8)} {t : Int} {rep : Prop} [Decidable rep] {x : GTree} {q : GRaw} (hq : rawT enc t x = some q) : ∀ {es : List GEntry} {L : List GRaw}, rawE enc es = some L → ∃ L', rawE enc (putE t rep x es) = some L' ∧ (zY L').length ≤ (zY L).length + (rawB q).length
 | [], L, h => by
  cases h
  refine ⟨[q], ?_, ?_⟩
  · rw [putE, rawE, zG4, zr1, rawL, hq]; rfl
  · rw [zg1, lP]; omega
 | e :: es, L, h => by
  obtain ⟨a, ha, h⟩ := bind_some h
  obtain ⟨m, hm, h⟩ := bind_some h
  cases h
  rw [putE]
  split
  · obtain ⟨L', h1, h2⟩ := rawE_put (rep := rep) hq hm
    refine ⟨a ++ L', ?_, ?_⟩
    · rw [rawE, ha, bS, h1]; rfl
    · rw [zV1, zV1, lP, lP]; omega
  · split
    · rename_i heq
      rw [heq] at ha
      by_cases hr : rep
      · refine ⟨(a ++ [q]) ++ m, ?_, ?_⟩
        · rw [rawE, zG4, zr1, if_pos hr, rawL_app hq ha, bS, hm]; rfl
        · simp only [zV1, zg1, lP]; show _ + (_ + 0) + _ ≤ _; omega
      · refine ⟨[q] ++ m, ?_, ?_⟩
        · rw [rawE, zG4, zr1, if_neg hr, nA, rawL, hq, bS]
          rw [rawL, bS, bS, hm]; rfl
        · simp only [zV1, zg1, lP]; show _ + 0 + _ ≤ _; omega
    · refine ⟨q :: (a ++ m), ?_, ?_⟩
      · rw [rawE, zG4, zr1, rawL, hq, bS, rawL, bS, bS, rawE, ha, bS, hm]; rfl
      · rw [zg1, lP]; omega
theorem zt5 {enc : GTree → Option (List UInt8)} {p : GEntry → Bool} : ∀ {es : List GEntry} {L : List GRaw}, rawE enc es = some L → ∃ L', rawE enc (es.filter p) = some L' ∧ (zY L').length ≤ (zY L).length
 | [], L, h => ⟨L, h, nR _⟩
 | e :: es, L, h => by
  obtain ⟨a, ha, h⟩ := bind_some h
  obtain ⟨m, hm, h⟩ := bind_some h
  cases h
  obtain ⟨L', h1, h2⟩ := zt5 (p := p) hm
  rw [List.filter_cons]
  split
  · refine ⟨a ++ L', ?_, ?_⟩
    · rw [rawE, ha, bS, h1]; rfl
    · rw [zV1, zV1, lP, lP]; omega
  · exact ⟨L', h1, by rw [zV1, lP]; omega⟩
theorem putE_ok {P : Int → GTree → Prop} {t : Int} {rep : Prop} [Decidable rep] {x : GTree} {e : GEntry} (hx : P t x) : ∀ {es : List GEntry}, (∀ a ∈ es, ∀ z ∈ a.fTrees, P a.fTag z) → e ∈ putE t rep x es → e ∈ es ∨ (e.fTag = t ∧ (¬ rep → e.fTrees.length = 1) ∧ 1 ≤ e.fTrees.length ∧ e.fTrees.length = putN t rep es ∧ ∀ z ∈ e.fTrees, P t z)
 | [], _, h => by
  rw [putE, List.mem_singleton] at h; subst h
  refine Or.inr ⟨rfl, fun _ => rfl, nR _, rfl, fun z hz => ?_⟩
  rw [zr1, List.mem_singleton] at hz; rw [hz]; exact hx
 | a :: es, hP, h => by
  rw [putE] at h; rw [putN]
  split at h
  · rename_i hlt
    rw [if_pos hlt]
    rcases mI.1 h with rfl | h
    · exact Or.inl (mS ..)
    · rcases putE_ok (P := P) hx (fun b hb => hP b (mO _ hb)) h with h | h
      · exact Or.inl (mO _ h)
      · exact Or.inr h
  · rename_i hlt
    rw [if_neg hlt]
    split at h
    · rename_i heq
      rw [if_pos heq]
      rcases mI.1 h with rfl | h
      · refine Or.inr ⟨rfl, fun hr => ?_, ?_, ?_, fun z hz => ?_⟩
        · rw [zr1, if_neg hr]; rfl
        · rw [zr1, lP, List.length_singleton]; omega
        · rw [zr1, lP, List.length_singleton]; split <;> rfl
        · rw [zr1] at hz
          rcases mA.1 hz with hz | hz
          · split at hz
            · rw [← heq]; exact hP a (mS ..) z hz
            · cases hz
          · rw [List.mem_singleton] at hz; rw [hz]; exact hx
      · exact Or.inl (mO _ h)
    · rename_i hne
      rw [if_neg hne]
      rcases mI.1 h with rfl | h
      · refine Or.inr ⟨rfl, fun _ => rfl, nR _, rfl, fun z hz => ?_⟩
        rw [zr1, List.mem_singleton] at hz; rw [hz]; exact hx
      · exact Or.inl h
theorem oneD_ok {s : GSchema} {d : Nat} {y : GType} {r : GRaw} (ih : ∀ m b, (decM s d m b).2 = 0 → okT s d m (decM s d m b).1 ∧ ∃ c, encT d (decM s d m b).1 = some c ∧ c.length ≤ b.length) (hr : zb2 r) (h0 : (oneD (decM s d) s y r).2 = 0) :
 okV (okT s d) s y (oneD (decM s d) s y r).1 ∧ ∃ q, rawT (encT d) r.fTag (oneD (decM s d) s y r).1 = some q ∧ (rawB q).length ≤ (rawB r).length := by
 obtain ⟨hc1, hc2, hc⟩ := zE1 hr.1
 by_cases hw : (y.fKind = 4 ∨ y.fKind = 5 ∨ y.fKind = 7) ∧ r.fWire = 1 ∨ ¬ (y.fKind = 4 ∨ y.fKind = 5 ∨ y.fKind = 7) ∧ r.fWire = 0
 · rw [oneD_wire hw] at h0 ⊢
   have hnum : r.fWire = 0 → ∀ x : GTree, x = ⟨1, r.fN, [], [], []⟩ → ∃ q, rawT (encT d) r.fTag x = some q ∧ (rawB q).length ≤ (rawB r).length := by
    intro h x hx
    obtain ⟨h1, h2⟩ : r.fWire = 0 ∧ r.fB = [] := by
     rcases hc with hc | hc
     · exact hc
     · omega
    refine ⟨⟨r.fTag, 0, r.fN, []⟩, ?_, ?_⟩
    · rw [hx, rawT, gt_kind, if_pos rfl]; rfl
    · have : (⟨r.fTag, 0, r.fN, []⟩ : GRaw) = r := by cases r; simp only at h1 h2 ⊢; rw [h1, h2]
      rw [this]; exact nR _
   have htext : r.fWire = 1 → r.fN = 0 ∧ r.fB.length ≤ 4096 := by
    intro h
    rcases hc with hc | hc
    · omega
    · exact hc.2
   have hstr : r.fWire = 1 → ∀ x : GTree, x = ⟨2, 0, r.fB, [], []⟩ → ∃ q, rawT (encT d) r.fTag x = some q ∧ (rawB q).length ≤ (rawB r).length := by
    intro h x hx
    obtain ⟨h1, h2⟩ := htext h
    refine ⟨⟨r.fTag, 1, 0, r.fB⟩, ?_, ?_⟩
    · rw [hx, rawT, gt_kind, if_neg (by decide), if_pos rfl, gt_s, if_neg (by omega)]
    · have : (⟨r.fTag, 1, 0, r.fB⟩ : GRaw) = r := by cases r; simp only at h h1 ⊢; rw [h, h1]
      rw [this]; exact nR _
   unfold okV
   by_cases h3 : y.fKind = 3 ∨ y.fKind = 6
   · rw [if_pos h3] at h0 ⊢
     have w0 : r.fWire = 0 := by rcases hw with hw | hw; omega; exact hw.2
     rw [if_neg (by omega), if_neg (by omega)]
     by_cases hn : valid_Number y r.fN = true
     · rw [if_pos hn] at h0 ⊢
       exact ⟨⟨rfl, hr.2, fun _ => hn⟩, hnum w0 _ rfl⟩
     · rw [if_neg hn] at h0; exact absurd h0 (by decide)
   · rw [if_neg h3] at h0 ⊢
     by_cases h4 : y.fKind = 4
     · have w1 : r.fWire = 1 := by rcases hw with hw | hw; exact hw.2; omega
       rw [if_pos h4] at h0 ⊢
       rw [if_neg (by omega), if_pos (Or.inl h4)]
       by_cases hn : zi5 r.fB = true
       · rw [if_pos hn] at h0 ⊢
         exact ⟨⟨rfl, (htext w1).2, fun _ => hn⟩, hstr w1 _ rfl⟩
       · rw [if_neg hn] at h0; exact absurd h0 (show ¬ ((zi2, (9 : Int)).2 = 0) by decide)
     · rw [if_neg h4] at h0 ⊢
       by_cases h7 : y.fKind = 7
       · have w1 : r.fWire = 1 := by rcases hw with hw | hw; exact hw.2; omega
         rw [if_pos h7] at h0 ⊢
         rw [if_pos h7]
         obtain ⟨hok, c, hc', hl⟩ := ih _ _ h0
         have hk3 : (decM s d (zw4 s y.fName) r.fB).1.fKind = 3 := by
          cases d with
          | zero => exact hok.elim
          | succ d => exact hok.1
         refine ⟨⟨hk3, hok⟩, ⟨r.fTag, 1, 0, c⟩, ?_, ?_⟩
         · rw [rawT, if_neg (by omega), if_neg (by omega), hc']; rfl
         · have hv := vb_mono hl
           have hkey : keyN (⟨r.fTag, 1, 0, c⟩ : GRaw) = keyN r := by unfold keyN; rw [w1]
           unfold rawB
           rw [hkey, gr_wire, if_neg (by decide), w1, if_neg (by decide), gr_b]
           simp only [lP]; omega
       · rw [if_neg h7] at h0 ⊢
         rw [if_neg h7]
         by_cases h5 : y.fKind = 5
         · have w1 : r.fWire = 1 := by rcases hw with hw | hw; exact hw.2; omega
           rw [if_pos w1, if_pos (Or.inr h5)]
           exact ⟨⟨rfl, (htext w1).2, fun h => absurd h h4⟩, hstr w1 _ rfl⟩
         · have w0 : r.fWire = 0 := by rcases hw with hw | hw; omega; exact hw.2
           rw [if_neg (show ¬ r.fWire = 1 by omega), if_neg (by omega)]
           exact ⟨⟨rfl, hr.2, fun h => absurd h h3⟩, hnum w0 _ rfl⟩
 · exfalso
   unfold oneD at h0
   rw [if_neg ?_] at h0
   · exact absurd h0 (show ¬ ((zi2, (8 : Int)).2 = 0) by decide)
   · intro hc
     by_cases h : y.fKind = 4 ∨ y.fKind = 5 ∨ y.fKind = 7
     · rw [if_pos h] at hc; exact hw (Or.inl ⟨h, hc⟩)
     · rw [if_neg h] at hc; exact hw (Or.inr ⟨h, hc⟩)
def okJ (s : GSchema) (d : Nat) (m : GMessage) (n : Nat) (es : List GEntry) (rest : List GRaw) : Prop :=
 es.Pairwise ze3 ∧ (∀ e ∈ es, okN (okT s d) s m e) ∧ (∀ r ∈ rest, zb2 r ∧ (check_Field m r.fTag).2 ≠ true) ∧ ∃ L, rawE (encT d) es = some L ∧ (zY L).length + (zY rest).length ≤ n
theorem fldD_ok {s : GSchema} {d : Nat} {m : GMessage} (ih : ∀ m b, (decM s d m b).2 = 0 → okT s d m (decM s d m b).1 ∧ ∃ c, encT d (decM s d m b).1 = some c ∧ c.length ≤ b.length) : ∀ {l : List GRaw} {es : List GEntry} {rest : List GRaw} {n : Nat}, (∀ r ∈ l, zb2 r) → okJ s d m n es rest → (fldD m (oneD (decM s d) s) l es rest).2 = 0 →
 ∃ es' rest', okJ s d m (n + (zY l).length) es' rest' ∧ fldD m (oneD (decM s d) s) l es rest = (⟨3, 0, [], zdel m es', srt rest'⟩, 0)
 | [], es, rest, n, _, hJ, _ => ⟨es, rest, hJ, rfl⟩
 | r :: l, es, rest, n, hr, hJ, h0 => by
  have hrr := hr r (mS ..)
  have hl : ∀ x ∈ l, zb2 x := fun x hx => hr x (mO _ hx)
  have hc := zE1 hrr.1
  obtain ⟨j1, j2, j3, L, j4, j5⟩ := hJ
  have en : n + (zY (r :: l)).length = (n + (rawB r).length) + (zY l).length := by rw [zg1, lP]; omega
  rw [fldD] at h0 ⊢
  rw [en]
  by_cases hk : (check_Field m r.fTag).2 = true
  · rw [if_pos hk] at h0 ⊢
    by_cases ho : (oneD (decM s d) s (check_Field m r.fTag).1.fType r).2 = 0
    · rw [if_pos ho] at h0 ⊢
      by_cases hp : putN r.fTag ((check_Field m r.fTag).1.fLabel = 3) es ≤ 64
      · rw [if_pos hp] at h0 ⊢
        obtain ⟨hv, q, hq, hqb⟩ := oneD_ok ih hrr ho
        obtain ⟨L', hL', hLb⟩ := rawE_put (rep := (check_Field m r.fTag).1.fLabel = 3) hq j4
        refine fldD_ok ih hl ⟨zS3 j1, fun e he => ?_, j3, L', hL', by omega⟩ h0
        rcases putE_ok (P := fun t z => okV (okT s d) s (check_Field m t).1.fType z) hv (fun a ha => (j2 a ha).2.2.2.2) he with h | ⟨a1, a2, a3, a4, a5⟩
        · exact j2 e h
        · exact ⟨by rw [a1]; exact ⟨hc.1, hc.2.1⟩, by rw [a1]; exact hk, ⟨a3, by omega⟩, by rw [a1]; exact a2, by rw [a1]; exact a5⟩
      · rw [if_neg hp] at h0; exact absurd h0 (show ¬ ((zi2, (4 : Int)).2 = 0) by decide)
    · rw [if_neg ho] at h0; exact absurd h0 ho
  · rw [if_neg hk] at h0 ⊢
    refine fldD_ok ih hl ⟨j1, j2, fun x hx => ?_, L, j4, ?_⟩ h0
    · rcases mA.1 hx with hx | hx
      · exact j3 x hx
      · rw [List.mem_singleton] at hx; rw [hx]; exact ⟨hrr, hk⟩
    · rw [zV1, zg1, lP, lP]; show _ + (_ + (_ + 0)) ≤ _; omega
theorem decM_ok {s : GSchema} : ∀ (d : Nat) (m : GMessage) (b : List UInt8), (decM s d m b).2 = 0 → okT s d m (decM s d m b).1 ∧ ∃ c, encT d (decM s d m b).1 = some c ∧ c.length ≤ b.length
 | 0, _, _, h => absurd h (show ¬ ((zi2, (10 : Int)).2 = 0) by decide)
 | d + 1, m, b, h => by
  rw [decM] at h ⊢
  by_cases hg : (getD b).2 = 0
  · rw [if_pos hg] at h ⊢
    obtain ⟨g1, g2, g3⟩ := getD_ok hg
    obtain ⟨es, rest, ⟨j1, j2, j3, L, j4, j5⟩, e⟩ := fldD_ok (decM_ok d) (n := 0) (es := []) (rest := []) g3 ⟨List.Pairwise.nil, (fun _ h => by cases h), (fun _ h => by cases h), [], rfl, nR _⟩ h
    rw [← g1] at j5
    rw [e]
    obtain ⟨L', f1, f2⟩ := zt5 (p := fun e => !isZ m e) j4
    have hrl : rest.length ≤ 4096 := by have := zt4 rest; omega
    have hlen : (zY (srt (srt rest ++ L'))).length ≤ b.length := by
     rw [srt_bytes, zV1, lP, srt_bytes]; omega
    refine ⟨⟨rfl, rfl, rfl, ?_, fun x hx => ?_, zC3 _, ?_, fun r hr => ?_⟩, zY (srt (srt rest ++ L')), ?_, hlen⟩
    · rw [gt_es]; exact List.Pairwise.filter _ j1
    · rw [gt_es, zdel, List.mem_filter, Bool.not_eq_true'] at hx
      exact ⟨j2 x hx.1, hx.2⟩
    · rw [gt_rest, srt_len]; exact hrl
    · rw [gt_rest, srt_mem] at hr; exact j3 r hr
    · rw [encT, gt_es, gt_rest, zdel, f1, bS, putB, if_neg (by omega)]
  · rw [if_neg hg] at h; exact absurd h hg
end Go.Proofs.YtaddlmlpeghonaaDoor
end
section
set_option maxRecDepth 4000
namespace Go.Proofs.YtaddlmlpeghonaaDoor
open AM

end Go.Proofs.YtaddlmlpeghonaaDoor
end
section
set_option maxRecDepth 4000
namespace Go.Proofs.YtaddlmlpeghonaaDoor
open AM

end Go.Proofs.YtaddlmlpeghonaaDoor
end
section
set_option maxRecDepth 4000
namespace Go.Proofs.YtaddlmlpeghonaaDoor
open AM

end Go.Proofs.YtaddlmlpeghonaaDoor
end
section
set_option maxRecDepth 4000
namespace Go.Proofs.YtaddlmlpeghonaaDoor
open AM
def restT : Nat → GTree → Prop
 | 0, t => t.fRest.length ≤ 40
 | d + 1, t => t.fRest.length ≤ 40 ∧ ∀ x ∈ kids t, restT d x
def smallR (P : Prop) (r : Bool × Int) : Prop := r.1 = true → (∃ n : Nat, r.2 = (n : Int) ∧ n ≤ 200) ∧ P
theorem small_l29 {self : GTree → Int → Int → Option (Bool × Int)} {deep : Nat} {x12 : Int} {rec15 : Int → Int → Option (Bool × Int)} {P : Prop} (hd : deep ≤ 13) (hs : ∀ x (m : Nat), m ≤ 200 → ∃ r, self x ((deep + 1 : Nat) : Int) (m : Int) = some r ∧ smallR (∀ d, restT d x) r) (hr : ∀ i (m : Nat), m ≤ 200 → ∃ r, rec15 i (m : Int) = some r ∧ smallR P r) :
 ∀ (l : List GTree) (i : Int) (m : Nat), m ≤ 200 → ∃ r, law00_small.l29 self (deep : Int) x12 rec15 l i (m : Int) = some r ∧ smallR (P ∧ ∀ x ∈ l, ∀ d, restT d x) r
 | [], i, m, hm => by
  obtain ⟨r, e, h⟩ := hr (x12 + 1) m hm
  exact ⟨r, e, fun h1 => ⟨(h h1).1, (h h1).2, fun x hx => by cases hx⟩⟩
 | x :: l, i, m, hm => by
  obtain ⟨⟨v, n⟩, e, h⟩ := hs x m hm
  rw [law00_small.l29, zW (by omega) (by omega), show (deep : Int) + 1 = ((deep + 1 : Nat) : Int) by omega, e, bS]
  cases v with
  | false => exact ⟨_, rfl, fun h1 => absurd h1 Bool.false_ne_true⟩
  | true =>
   obtain ⟨⟨n', e', hn'⟩, hx⟩ := h rfl
   dsimp only at e'
   dsimp only
   rw [if_neg (by decide), e']
   obtain ⟨r, er, h2⟩ := small_l29 hd hs hr l (i + 1) n' hn'
   refine ⟨r, er, fun h1 => ⟨(h2 h1).1, (h2 h1).2.1, fun y hy => ?_⟩⟩
   rcases mI.1 hy with rfl | hy
   · exact hx
   · exact (h2 h1).2.2 y hy
theorem small_l15 {self : GTree → Int → Int → Option (Bool × Int)} {deep : Nat} (hd : deep ≤ 13) (hs : ∀ x (m : Nat), m ≤ 200 → ∃ r, self x ((deep + 1 : Nat) : Int) (m : Int) = some r ∧ smallR (∀ d, restT d x) r) :
 ∀ (l : List GEntry) (i : Int) (m : Nat), m ≤ 200 → ∃ r, law00_small.l15 self (deep : Int) l i (m : Int) = some r ∧ smallR (∀ e ∈ l, ∀ x ∈ e.fTrees, ∀ d, restT d x) r
 | [], i, m, hm => ⟨(true, (m : Int)), rfl, fun _ => ⟨⟨m, rfl, hm⟩, fun x hx => by cases hx⟩⟩
 | e :: l, i, m, hm => by
  rw [law00_small.l15]
  split
  · exact ⟨_, rfl, fun h1 => absurd h1 Bool.false_ne_true⟩
  · obtain ⟨r, er, h⟩ := small_l29 (x12 := i) (rec15 := law00_small.l15 self (deep : Int) l) hd hs (fun i m hm => small_l15 hd hs l i m hm) e.fTrees 0 m hm
    refine ⟨r, er, fun h1 => ⟨(h h1).1, fun y hy => ?_⟩⟩
    rcases mI.1 hy with rfl | hy
    · exact (h h1).2.2
    · exact (h h1).2.1 y hy
theorem small_l8 {self : GTree → Int → Int → Option (Bool × Int)} {t : GTree} {deep n : Int} : ∀ (l : List GRaw) (i : Int), (∃ v, law00_small.l8 self t deep n l i = some (false, v)) ∨ law00_small.l8 self t deep n l i = law00_small.l15 self deep t.fEntries 0 (IntKind.i64.wrap (n + 1))
 | [], i => Or.inr rfl
 | r :: l, i => by
  rw [law00_small.l8]
  split
  · exact Or.inl ⟨_, rfl⟩
  · exact small_l8 l _
theorem small_t : ∀ (k deep : Nat) (t : GTree) (n : Nat), 14 < k + deep → deep ≤ 14 → n ≤ 200 → ∃ r, law00_small k t (deep : Int) (n : Int) = some r ∧ smallR (∀ d, restT d t) r
 | 0, deep, t, n, h, h', _ => by omega
 | k + 1, deep, t, n, h, h', hn => by
  rw [law00_small, law00_small.body, zW (by omega) (by omega)]
  split
  · exact ⟨_, rfl, fun h1 => absurd h1 Bool.false_ne_true⟩
  · rename_i hc
    simp only [Bool.or_eq_true, decide_eq_true_eq, not_or] at hc
    rcases small_l8 (self := law00_small k) (t := t) (deep := (deep : Int)) (n := (n : Int)) t.fRest 0 with ⟨v, e⟩ | e
    · exact ⟨_, e, fun h1 => absurd h1 Bool.false_ne_true⟩
    · rw [e, zW (by omega) (by omega), show (n : Int) + 1 = ((n + 1 : Nat) : Int) by omega]
      obtain ⟨r, er, h2⟩ := small_l15 (deep := deep) (by omega) (fun x m hm => small_t k (deep + 1) x m (by omega) (by omega) hm) t.fEntries 0 (n + 1) (by omega)
      refine ⟨r, er, fun h1 => ⟨(h2 h1).1, fun d => ?_⟩⟩
      cases d with
      | zero => show t.fRest.length ≤ 40; omega
      | succ d =>
       refine ⟨by omega, fun x hx => ?_⟩
       obtain ⟨e, he, hxe⟩ := List.mem_flatMap.1 hx
       exact (h2 h1).2 e he x hxe d
theorem Small_t (t : GTree) : ∃ b, law00_Small t = some b ∧ (b = true → ∀ d, restT d t) := by
 obtain ⟨r, e, h⟩ := small_t rounds 0 t 0 (by have := zd1; omega) (by omega) (by omega)
 refine ⟨r.1, ?_, fun h1 => (h h1).2⟩
 have e' : law00_small rounds t 0 0 = some r := e
 rw [law00_Small, e']; rfl
end Go.Proofs.YtaddlmlpeghonaaDoor
end
section
set_option maxRecDepth 4000
namespace Go.Proofs.YtaddlmlpeghonaaDoor
open AM
theorem awake25 : law25_awake = some true := by decide +kernel
end Go.Proofs.YtaddlmlpeghonaaDoor
end
section
set_option maxRecDepth 4000
namespace Go.Proofs.YtaddlmlpeghonaaDoor
open AM
def sP : GSchema := ⟨[97], [(⟨[109], ([] : List GField), ([] : List Int)⟩ : GMessage)], ([] : List GEnumeration), [(⟨[99], [109], [109]⟩ : GMethod)]⟩
theorem sP_check : check_Check sP = some 0 := by decide +kernel
theorem sP_msg : (check_Message sP [109]).2 = true := by decide +kernel
theorem sP_of : (zw4 sP [109]).fFields = [] := by decide +kernel
theorem sP_meth : check_Method sP [99] = ((⟨[99], [109], [109]⟩ : GMethod), true) := by decide +kernel
theorem sP_unk (t : Int) : (check_Field (zw4 sP [109]) t).2 ≠ true := by
 rw [check_Field, sP_of]; exact Bool.false_ne_true
theorem pass_raws {l : List GRaw} {p : GPacket} (hl : ∀ r ∈ l, zb2 r) (hs : l.Pairwise TagLe) (hb : (zY l).length ≤ 4096) (hp : p.fBody = zY l) : proxy_Pass.j8 sP p [109] = some (p, true) := by
 have hd : decM sP 10 (zw4 sP [109]) (zY l) = (⟨3, 0, [], [], l⟩, 0) := by
  have := fldD_unk (m := zw4 sP [109]) (one := oneD (decM sP 9) sP) (B := []) (es := []) (A := l) (rest := []) fun r _ => sP_unk _
  rw [aN, nA] at this
  rw [decM, getD_of hl hb, if_pos rfl, this, fldD, srt_id hs]; rfl
 have hok := (decM_ok 10 (zw4 sP [109]) (zY l) (by rw [hd])).1
 rw [hd] at hok
 have he : encode_Encode ⟨3, 0, [], [], l⟩ = some (zY l, 0) := by
  rw [Encode_eq (okT_sz 10 10 _ _ (nR _) hok), if_pos ⟨okT_check (nR _) hok, rfl⟩, encT, gt_es, gt_rest, rawE, bS, aN, srt_id hs, putB, if_neg (by omega)]; rfl
 rw [proxy_Pass.j8, hp, zy4 (by omega), bS, decode_eq sP_check sP_msg, hd, bS, if_pos rfl, he, bS, if_pos rfl, ← hp]
theorem punk_j13 {l : List GRaw} {k : Int} (hl : ∀ r ∈ l, zb2 r) (hs : l.Pairwise TagLe) (hb : (zY l).length ≤ 4096) (hk : k = 3 ∨ k = 4) : law25_ProxyUnknown.j13 ⟨k, 1, 0, 7, 2, [99], 0, zY l⟩ = some true := by
 have h8 := pass_raws (p := ⟨k, 1, 0, 7, 2, [99], 0, zY l⟩) hl hs hb rfl
 have hp : proxy_Pass sP ⟨k, 1, 0, 7, 2, [99], 0, zY l⟩ = some (⟨k, 1, 0, 7, 2, [99], 0, zY l⟩, true) := by
  rw [proxy_Pass, sP_check, bS, if_pos rfl, bnd, sP_meth]
  dsimp only
  rw [if_neg (by decide), proxy_Pass.j23]
  rcases hk with rfl | rfl
  · rw [if_neg (by simp), if_neg (by simp)]; exact h8
  · rw [if_neg (by simp), if_pos rfl]; exact h8
 unfold sP at hp
 rw [law25_ProxyUnknown.j13, hp, bS, if_pos (by simp), awake25]; rfl
theorem punknown_true {t : GTree} {b : Bool} (hz : (∀ d, restT d t) → szT 10 t) : law25_ProxyUnknown t b = some true := by
 obtain ⟨v, e, h⟩ := Small_t t
 rw [law25_ProxyUnknown, e, bS]
 cases v with
 | false => rw [if_pos (show (!false) = true from rfl), awake25]; rfl
 | true =>
  have hz' := hz (h rfl)
  rw [if_neg (by decide), zp5 hz', bS]
  by_cases hc : zZ1 t = true ∧ t.fKind = 3
  · rw [if_pos hc]
    cases hE : encT 10 t with
    | none => rw [zu4, if_neg (by decide), awake25]; rfl
    | some c =>
     have hE' := hE
     rw [encT] at hE'
     obtain ⟨L, hL, hE'⟩ := bind_some hE'
     obtain ⟨hc1, hc2⟩ := putB_some hE'
     rw [hc1] at hc2
     have hok := raws_ok (zc3 hc.1).1 hc.2 hz' hL
     have hj := fun k hk => punk_j13 (k := k) hok (zC3 _) hc2 hk
     rw [zu4, hc1]
     dsimp only
     rw [if_pos rfl]
     cases b with
     | true => rw [if_pos rfl]; exact hj 4 (Or.inr rfl)
     | false => rw [if_neg (by decide)]; exact hj 3 (Or.inl rfl)
  · rw [if_neg hc, if_neg (by decide), awake25]; rfl
end Go.Proofs.YtaddlmlpeghonaaDoor
end
section
namespace Go.Proofs.YtaddlmlpeghonaaDoor
open Go.ChangeShapes Go.WideShapes Go.ChangeAt Go.RowKit Go.Shelf Go.Lib AM
theorem own : ownKnob Tryd.prog.godebug = none := by kernel_rfl
theorem laidOut : laidOutB Tryd.prog = true := by kernel_rfl
def listed : List (String × DataW Unit) := [("unicode/utf8.acceptRanges", Rows.laid_unicode_utf8_acceptRanges), ("unicode/utf8.first", Rows.laid_unicode_utf8_first)]
noncomputable def laidWorld (os : Os) : World :=
 let w0 := World.holding Tryd.prog os ⟨#[], #[], []⟩
 let put (h : Array Obj) (g : Nat) (cs : Array Value) : Array Obj := h.modify g fun
  | .cells _ t frozen => .cells cs t frozen
  | o => o
 let h1 := put w0.heap (utf8Ren.g 3) (Lib.firstTab.map fun z => Value.int .u8 z).toArray
 let h2 := put h1 (utf8Ren.g 4) ((List.range 16).flatMap fun i => [Value.int .u8 (Lib.accLo i), Value.int .u8 (Lib.accHi i)]).toArray
 { w0 with heap := h2 }
theorem laid_met (os : Os) (args : Array Value) : laidMet Tryd.prog listed ((laidWorld os).forCall (fun _ _ => 0) ⟨#[], args, []⟩).memory :=
 (LaidIn.of_run (l := listed) [0, 1] 8 (by kernel_rfl) (by kernel_rfl) (by kernel_rfl) (by kernel_rfl)).met
theorem laid_metH (os : Os) (args : Array Value) : laidMetH Tryd.prog listed ((laidWorld os).forCall (fun _ _ => 0) ⟨#[], args, []⟩).memory := laid_met os args
theorem firstD : Rows.laid_unicode_utf8_first = Lib.firstData := by kernel_rfl
theorem acceptD : (Rows.laid_unicode_utf8_acceptRanges : DataW Unit) = Lib.acceptData := by kernel_rfl
theorem u8types : U8Types Tryd.prog utf8Ren := ⟨utf8Lays.t5, utf8Lays.t119, utf8Lays.t138, utf8Lays.t139⟩
theorem glb_of_laid {W : World} (hL : laidMetH Tryd.prog listed W) : Glb W fun b => b < W.heap.size := by
 have h' : laidMet Tryd.prog listed W := hL
 have r1 := Lib.laidMet.reads h' (.tail _ (.head _))
 have r2 := Lib.laidMet.reads h' (.head _)
 rw [firstD] at r1
 rw [acceptD] at r2
 have ht : Lib.Utf8Tabs (utf8Ren.g 3) (utf8Ren.g 4) W := utf8Tabs_of_readsT u8types ⟨by kernel_rfl, by kernel_rfl, by kernel_rfl, by kernel_rfl, by kernel_rfl, by kernel_rfl, by kernel_rfl⟩ r1 r2
 obtain ⟨t1, t2⟩ := ht
 have lt : ∀ {g o : Nat} {v : Value}, W.cell? ⟨g, o, none⟩ = some v → g < W.heap.size := by
  intro g o v h
  refine Nat.lt_of_not_le fun hle => ?_
  unfold World.cell? at h
  rw [Array.getElem?_eq_none hle] at h
  cases h
 refine ⟨fun g vs hm => ?_, fun g vs hm i v hv => ?_⟩
 · rcases mI.1 hm with e | hm
   · cases e; exact lt (t1 0 (by decide))
   · rcases mI.1 hm with e | hm
     · cases e; exact lt (t2 0 (by decide)).1
     · cases hm
 · rcases mI.1 hm with e | hm
   · cases e
     have hi : i < 256 := by
      have := (List.getElem?_eq_some_iff.1 hv).1; simpa using this
     rw [List.getElem?_map, List.getElem?_range hi] at hv
     cases hv
     exact t1 i hi
   · rcases mI.1 hm with e | hm
     · cases e
       have hi : i < 32 := by
        have := (List.getElem?_eq_some_iff.1 hv).1; simpa using this
       rw [List.getElem?_map, List.getElem?_range hi] at hv
       cases hv
       have h1 := t2 (i / 2) (by omega)
       have : i % 2 = 0 ∨ i % 2 = 1 := by omega
       rcases this with h | h
       · have e : 2 * (i / 2) = i := by omega
         rw [e] at h1
         simp only [h, if_true]; exact h1.1
       · have e : 2 * (i / 2) + 1 = i := by omega
         rw [e] at h1
         simp only [h]; exact h1.2
     · cases hm
end Go.Proofs.YtaddlmlpeghonaaDoor
end
section
namespace Go.Proofs.YtaddlmlpeghonaaDoor
namespace AM
open Go.RowKit Go.ChangeShapes Go.WideShapes Go.Deep
section
variable {H : Type} {enc : TypeId × Value → H} {P : Program} {w : World} {base : Nat} {spare : Nat → Bool} {held : Bool}
def OpensS (enc : TypeId × Value → H) (P : Program) (w : World) (base : Nat) (spare : Nat → Bool) (held : Bool) (N : Nat) (t : TypeId) (A : List AV → Prop) : Prop :=
 ∀ n cs y, DataW.trod enc P w base spare held n t cs = some y → SizeOf.sizeOf y.1 < N → (∀ x ∈ y.1.weights P t, x ≤ reachBytes) → ∃ avs, avs.length = cs.length ∧ A avs ∧ ∀ i, i < avs.length → VR (Env.start w) (gc avs i) (cs.getD i undef)
variable {N : Nat}
theorem OpensS.mono {t : TypeId} {A B : List AV → Prop} (h : OpensS enc P w base spare held N t A) (k : ∀ l, A l → B l) : OpensS enc P w base spare held N t B := fun n cs y hy hN hs => by
 obtain ⟨avs, h1, h2, h3⟩ := h n cs y hy hN hs
 exact ⟨avs, h1, k _ h2, h3⟩
theorem OpensS.less {t : TypeId} {A : List AV → Prop} (h : OpensS enc P w base spare held (N + 1) t A) : OpensS enc P w base spare held N t A := fun n cs y hy hN hs => h n cs y hy (by omega) hs
theorem Opens.sized {t : TypeId} {A : List AV → Prop} (h : Opens enc P w base spare held t A) : OpensS enc P w base spare held N t A := fun n cs y hy _ _ => h n cs y hy
theorem opensS_string {t : TypeId} (ht : P.underlying t = some .string) : OpensS enc P w base spare held N t fun l => ∃ s, l = [.str s] ∧ s.length ≤ reachBytes := by
 intro n cs y hy _ hs
 obtain ⟨m, rfl, hy, hl⟩ := DataW.trod_string ht hy
 refine ⟨[.str m.data.toList], rfl, ⟨_, rfl, ?_⟩, fun i hi => by simp at hi; subst hi; exact .str _ _ rfl⟩
 have := hs m.data.toList.length (by subst hy; simp [DataW.weights])
 simpa using this
def tiles (P : Program) : List Field → Nat → Nat → Bool
 | [], o, e => o == e
 | f :: l, o, e => f.offset == o && tiles P l (o + P.cellsOf f.type) e
theorem tile {cs : List Value} {A : Nat → List AV → Prop} : ∀ (l : List Field) (o k e : Nat), tiles P l o e = true →
 (∀ j f, l[j]? = some f → ∃ avs : List AV, avs.length = P.cellsOf f.type ∧ A (k + j) avs ∧ ∀ i, i < avs.length → VR (Env.start w) (gc avs i) (cs.getD (f.offset + i) undef)) →
 ∃ parts : List (List AV), parts.length = l.length ∧ (∀ j, j < l.length → A (k + j) (parts.getD j [])) ∧ o + parts.flatten.length = e ∧ ∀ i, i < parts.flatten.length → VR (Env.start w) (gc parts.flatten i) (cs.getD (o + i) undef)
 | [], o, k, e, h, _ => ⟨[], rfl, (fun j hj => by simp at hj), by simpa [tiles] using h, (fun i hi => by simp at hi)⟩
 | f :: l, o, k, e, h, hA => by
  simp only [tiles, Bool.and_eq_true, beq_iff_eq] at h
  obtain ⟨avs, a1, a2, a3⟩ := hA 0 f rfl
  obtain ⟨parts, p1, p2, p3, p4⟩ := tile l (o + P.cellsOf f.type) (k + 1) e h.2 fun j g hg => by
   obtain ⟨x, x1, x2, x3⟩ := hA (j + 1) g (by simpa using hg)
   exact ⟨x, x1, by rw [show k + 1 + j = k + (j + 1) by omega]; exact x2, x3⟩
  refine ⟨avs :: parts, by simp [p1], ?_, by rw [List.flatten_cons, lP]; omega, ?_⟩
  · intro j hj
    cases j with
    | zero => simpa using a2
    | succ j =>
     have := p2 j (by simpa using hj)
     rw [show k + 1 + j = k + (j + 1) by omega] at this
     simpa using this
  · intro i hi
    rw [List.flatten_cons] at hi ⊢
    by_cases hlt : i < avs.length
    · have := a3 i hlt
      rw [h.1] at this
      rw [gc, gG, gL hlt]
      simpa [gc, gG] using this
    · rw [lP] at hi
      have := p4 (i - avs.length) (by omega)
      rw [show o + P.cellsOf f.type + (i - avs.length) = o + i by omega] at this
      rw [gc, gG, gR (by omega)]
      simpa [gc, gG] using this
theorem mem_weightsEach {x : Nat} : ∀ {ts : List TypeId} {ds : List (DataW H)} (j : Nat) (t : TypeId) (d : DataW H), ts[j]? = some t → ds[j]? = some d → x ∈ d.weights P t → x ∈ DataW.weightsEach P ts ds
 | [], _, j, t, d, h, _, _ => by simp at h
 | _ :: _, [], j, t, d, _, h, _ => by simp at h
 | t' :: ts, d' :: ds, j, t, d, ht, hd, hx => by
  rw [DataW.weightsEach, mA]
  cases j with
  | zero =>
   simp at ht hd; subst ht hd; exact Or.inl hx
  | succ j => exact Or.inr (mem_weightsEach j t d (by simpa using ht) (by simpa using hd) hx)
theorem zL3 {x : Nat} {e : TypeId} : ∀ {ds : List (DataW H)} {d : DataW H}, d ∈ ds → x ∈ d.weights P e → x ∈ DataW.weightsAll P e ds
 | [], _, h, _ => by cases h
 | d' :: ds, d, h, hx => by
  rw [DataW.weightsAll, mA]
  rcases mI.1 h with rfl | h
  · exact Or.inl hx
  · exact Or.inr (zL3 h hx)
theorem zX2 {t : TypeId} {fs : Array Field} (ht : P.underlying t = some (.struct fs)) (hC : tiles P fs.toList 0 (P.cellsOf t) = true) {A : Nat → List AV → Prop}
 (hA : ∀ j f, fs[j]? = some f → OpensS enc P w base spare held N f.type (A j)) : OpensS enc P w base spare held (N + 1) t fun l => ∃ parts : List (List AV), l = parts.flatten ∧ parts.length = fs.size ∧ ∀ j, j < fs.size → A j (parts.getD j []) := by
 intro n cs y hy hN hs
 obtain ⟨ys, n', _, he, hlen, hyl, hf⟩ := DataW.trod_struct ht hy
 have hends : ∀ (l : List Field) (o e : Nat), tiles P l o e = true → o ≤ e ∧ ∀ (j : Nat) (f : Field), l[j]? = some f → f.offset + P.cellsOf f.type ≤ e := by
  intro l
  induction l with
  | nil => intro o e h; simp [tiles] at h; exact ⟨by omega, fun j f h => by simp at h⟩
  | cons f l ih =>
   intro o e h
   simp only [tiles, Bool.and_eq_true, beq_iff_eq] at h
   obtain ⟨h1, h2⟩ := ih _ _ h.2
   refine ⟨by omega, fun j g hg => ?_⟩
   cases j with
   | zero => simp at hg; subst hg; omega
   | succ j => exact h2 j g (by simpa using hg)
 obtain ⟨parts, p1, p2, p3, p4⟩ := tile (w := w) (cs := cs) (A := A) fs.toList 0 0 (P.cellsOf t) hC fun j f hj => by
  have hfj : fs[j]? = some f := by simpa using hj
  have hlt : j < fs.size := (Array.getElem?_eq_some_iff.1 hfj).1
  have h1 := hf j f hfj
  rw [List.getElem?_eq_getElem (by omega)] at h1
  have hend := (hends _ _ _ hC).2 j f hj
  have hm : ys[j]'(by omega) ∈ ys := List.getElem_mem _
  have hsz : SizeOf.sizeOf (ys[j]'(by omega)).1 < N := by
   have h2 : (ys[j]'(by omega)).1 ∈ ys.map (·.1) := List.mem_map_of_mem hm
   have h3 := List.sizeOf_lt_of_mem h2
   rw [he] at hN
   simp only [DataW.agg.sizeOf_spec] at hN
   omega
  obtain ⟨avs, e1, e2, e3⟩ := hA j f hfj _ _ _ h1 hsz fun x hx => hs x (by
   rw [he, DataW.weights, ht]
   exact mem_weightsEach j f.type _ (by simp [hj]) (by rw [List.getElem?_map, List.getElem?_eq_getElem (by omega)]; rfl) hx)
  have hl1 : avs.length = P.cellsOf f.type := by rw [e1, List.length_take, List.length_drop]; omega
  refine ⟨avs, hl1, by rw [nZ]; exact e2, fun i hi => ?_⟩
  have h4 := e3 i hi
  have h5 : ((cs.drop f.offset).take (P.cellsOf f.type)).getD i undef = cs.getD (f.offset + i) undef := by
   simp only [gG]
   rw [List.getElem?_take_of_lt (by omega), List.getElem?_drop]
  rw [h5] at h4; exact h4
 refine ⟨parts.flatten, by omega, ⟨parts, rfl, by simpa using p1, fun j hj => ?_⟩, fun i hi => ?_⟩
 · have := p2 j (by simpa using hj)
   rwa [nZ] at this
 · have := p4 i hi
   rwa [nZ] at this
theorem zt3 {t e : TypeId} (ht : P.underlying t = some (.slice e)) (hpos : 0 < P.cellsOf e) {A : List AV → Prop} (hA : OpensS enc P w base spare held N e A) :
 OpensS enc P w base spare held (N + 1) t fun l => ∃ es, l = [.ds true (List.flatten es) (lN es) false] ∧ (∀ x ∈ es, A x ∧ x.length = P.cellsOf e) ∧ es.length * P.bytesOf e ≤ reachBytes ∧ es.length ≤ maxLen := by
 intro n cs y hy hN hs
 rcases open_slice ht hy with ⟨rfl, _⟩ | ⟨a, len, cap, m, n', D, Pl, rfl, _, hl, hm, hmm, hye, hi⟩
 · refine ⟨[.ds true [] 0 false], rfl, ⟨[], by simp, by simp, by simp, by simp⟩, fun i hi => ?_⟩
   simp at hi; subst hi; exact .dsn _
 have hlm : len ≤ m := by rw [hmm]; split <;> omega
 have hlen : len * P.bytesOf e ≤ reachBytes := by
  have := hs ((((List.range len).map D).length + ((List.range (m - len)).map fun j => D (len + j)).length) * P.bytesOf e) (by rw [hye]; simp only [DataW.weights, ht]; exact mS ..)
  rw [lM, List.length_range] at this
  exact Nat.le_trans (Nat.mul_le_mul_right _ (Nat.le_add_right _ _)) this
 have each : ∀ i, i < len → ∃ avs : List AV, avs.length = P.cellsOf e ∧ A avs ∧ ∀ j, j < avs.length → ∃ v, w.cell? ((a.add (i * P.cellsOf e)).add j) = some v ∧ VR (Env.start w) (gc avs j) v := by
  intro i hil
  obtain ⟨cs', h1, h2⟩ := hi i (by omega)
  obtain ⟨_, hcl, hat⟩ := World.cells?_some h1
  have hmem : D i ∈ (List.range len).map D := List.mem_map_of_mem (List.mem_range.2 hil)
  have hsz : SizeOf.sizeOf (D i) < N := by
   have h3 := List.sizeOf_lt_of_mem hmem
   rw [hye] at hN
   simp only [DataW.slice.sizeOf_spec] at hN
   omega
  obtain ⟨avs, e1, e2, e3⟩ := hA _ _ _ h2 hsz fun x hx => hs x (by
   rw [hye]; simp only [DataW.weights, ht]
   exact mO _ (List.mem_append_left _ (zL3 hmem hx)))
  refine ⟨avs, by omega, e2, fun j hj => ⟨cs'.getD j undef, ?_, e3 j hj⟩⟩
  rw [hat j (by omega), gG, List.getElem?_eq_getElem (by omega)]; rfl
 obtain ⟨g, hg⟩ := Classical.axiomOfChoice (r := fun (i : Fin len) (avs : List AV) => avs.length = P.cellsOf e ∧ A avs ∧ ∀ j, j < avs.length → ∃ v, w.cell? ((a.add (i.1 * P.cellsOf e)).add j) = some v ∧ VR (Env.start w) (gc avs j) v) (fun i => each i.1 i.2)
 have hes : ∀ x ∈ List.ofFn g, A x ∧ x.length = P.cellsOf e := by
  intro x hx
  obtain ⟨i, rfl⟩ := List.mem_ofFn.1 hx
  exact ⟨(hg i).2.1, (hg i).1⟩
 refine ⟨[.ds true (List.ofFn g).flatten (List.ofFn g).length false], rfl, ⟨_, rfl, hes, by simpa using hlen, by simp; omega⟩, fun i hi => ?_⟩
 simp at hi; subst hi
 have hfl := length_flat (es := List.ofFn g) (sz := P.cellsOf e) fun x hx => (hes x hx).2
 have hsp : (List.ofFn g).flatten.length ≠ 0 → a.spot = none := by
  intro h0
  rw [hfl] at h0
  have hl0 : 0 < len := by
   rcases Nat.eq_zero_or_pos len with h | h
   · subst h; simp at h0
   · exact h
  obtain ⟨v, h1, _⟩ := (hg ⟨0, hl0⟩).2.2 0 (by rw [(hg ⟨0, hl0⟩).1]; exact hpos)
  have := World.cell?_spot h1
  simpa [Addr.add] using this
 have hcell : ∀ k, k < (List.ofFn g).flatten.length → ∃ v, w.cell? ⟨a.block, a.off + k, none⟩ = some v ∧ VR (Env.start w) (gc (List.ofFn g).flatten k) v := by
  intro k hk
  have hs := hsp (by omega)
  rw [hfl] at hk
  simp only [List.length_ofFn] at hk
  have hd : k / P.cellsOf e < len := Nat.div_lt_of_lt_mul (by rw [Nat.mul_comm]; exact hk)
  have hmd : k % P.cellsOf e < P.cellsOf e := Nat.mod_lt _ hpos
  have hsplit : k / P.cellsOf e * P.cellsOf e + k % P.cellsOf e = k := by rw [Nat.mul_comm]; exact Nat.div_add_mod _ _
  obtain ⟨v, h1, h2⟩ := (hg ⟨_, hd⟩).2.2 (k % P.cellsOf e) (by rw [(hg ⟨_, hd⟩).1]; exact hmd)
  refine ⟨v, ?_, ?_⟩
  · rw [add_spot hs, add_spot rfl] at h1
    simp only at h1
    rw [Nat.add_assoc, hsplit] at h1; exact h1
  · have := gc_flat (es := List.ofFn g) (fun x hx => (hes x hx).2) (k / P.cellsOf e) (k % P.cellsOf e) hmd (by simpa using hd)
    rw [hsplit] at this
    rw [this]; simpa using h2
 obtain ⟨vs, hvs⟩ : ∃ vs : Nat → Value, ∀ k, k < (List.ofFn g).flatten.length → w.cell? ⟨a.block, a.off + k, none⟩ = some (vs k) ∧ VR (Env.start w) (gc (List.ofFn g).flatten k) (vs k) := by
  refine ⟨fun k => (w.cell? ⟨a.block, a.off + k, none⟩).getD undef, fun k hk => ?_⟩
  obtain ⟨v, h1, h2⟩ := hcell k hk
  simp only [h1, Option.getD_some]; exact ⟨trivial, h2⟩
 show VR (Env.start w) (.ds true _ _ false) (.slice (some a) len cap)
 rw [List.length_ofFn]
 refine .ds _ _ _ _ a cap vs ?_ ?_ (fun k hk => (hvs k hk).2) hl (fun h => by cases h) ?_
 · by_cases h0 : (List.ofFn g).flatten.length = 0
   · exact .inl (lI.1 h0)
   · exact .inr (hsp h0)
 · by_cases h0 : (List.ofFn g).flatten.length = 0
   · exact .inl h0
   · refine .inr ⟨?_, fun k hk => (hvs k hk).1⟩
     obtain ⟨_, h, _⟩ := hcell 0 (by omega)
     exact cell_lt (a := ⟨a.block, a.off + 0, none⟩) h
 · unfold maxLen at *; omega
theorem OpensS.agg {t : TypeId} {A : List AV → Prop} (h : ∀ N, OpensS enc P w base spare held N t A) {vs : Array Value} {d : DataW H} {p : List MemPlace} (hv : DataW.Trod enc P w base spare held t (.agg vs) d p) (hw : ∀ x ∈ d.weights P t, x ≤ reachBytes) : ∃ l, A l ∧ VR (Env.start w) (.agg l) (.agg vs) := by
 obtain ⟨n, hn⟩ := hv
 obtain ⟨avs, e1, e2, e3⟩ := h _ _ _ _ hn (nS _) hw
 refine ⟨avs, e2, .agg _ _ (by simpa [Value.cells] using e1.symm) fun i hi => ?_⟩
 have := e3 i hi
 simpa [Value.cells, gG, Array.getD_eq_getD_getElem?] using this
end
end AM
open AM
theorem flat_of {α : Type} {e : α → List AV} {p : α → Prop} {es : List (List AV)} (h : ∀ x ∈ es, ∃ y : α, x = e y ∧ p y) : ∃ zs : List α, es.flatten = zs.flatMap e ∧ zs.length = es.length ∧ ∀ z ∈ zs, p z := by
 induction es with
 | nil => exact ⟨[], rfl, rfl, fun z hz => by cases hz⟩
 | cons x es ih =>
  obtain ⟨zs, h1, h2, h3⟩ := ih fun y hy => h y (by simp [hy])
  obtain ⟨y, rfl, hp⟩ := h x (by simp)
  refine ⟨y :: zs, by simp [h1], by simp [h2], fun z hz => ?_⟩
  rcases mI.1 hz with rfl | hz
  · exact hp
  · exact h3 z hz
def in64 (n : Int) : Prop := -9223372036854775808 ≤ n ∧ n < 9223372036854775808
theorem wf64 {n : Int} (h : (Lit.int .i64 n).wf = true) : in64 n := by
 simp only [Lit.wf, IntKind.min, IntKind.max, IntKind.signed, IntKind.bits, Bool.and_eq_true, decide_eq_true_eq, if_true] at h
 unfold in64; omega
section
variable {H : Type} {enc : TypeId × Value → H} {w : World} {base : Nat} {spare : Nat → Bool} {held : Bool} {N : Nat}
theorem zo2 : OpensS enc Tryd.prog w base spare held N 3 fun x => ∃ n, x = [.int .i64 n] ∧ in64 n :=
 ((opens_int Tryd.underlying3).mono fun x ⟨n, h1, h2⟩ => ⟨n, h1, wf64 h2⟩).sized
theorem opens_str : OpensS enc Tryd.prog w base spare held N 9 fun x => ∃ s, x = [.str s] ∧ s.length ≤ 140737488351232 := opensS_string Tryd.underlying9
end
end Go.Proofs.YtaddlmlpeghonaaDoor
end
section
namespace Go.Proofs.YtaddlmlpeghonaaDoor
open AM
section
variable {H : Type} {enc : TypeId × Value → H} {w : World} {base : Nat} {spare : Nat → Bool} {held : Bool}
def okRaw (y : GRaw) : Prop := in64 y.fTag ∧ in64 y.fWire ∧ in64 y.fN ∧ y.fB.length ≤ 140737488351232
theorem opens_raw (N : Nat) : OpensS enc Tryd.prog w base spare held N 33 fun x => ∃ y : GRaw, x = encGRaw y ∧ okRaw y := by
 refine ((zX2 (N := N) (A := fun j x => if j < 3 then ∃ n, x = [.int .i64 n] ∧ in64 n else ∃ s, x = [.str s] ∧ s.length ≤ 140737488351232) Tryd.underlying33 (by decide +kernel) ?_).mono ?_).less
 · intro j f hf
   match j with
   | 0 => cases hf; exact zo2
   | 1 => cases hf; exact zo2
   | 2 => cases hf; exact zo2
   | 3 => cases hf; exact opens_str
   | j + 4 => simp at hf
 · rintro x ⟨parts, rfl, hl, hx⟩
   obtain ⟨a, e0, w0⟩ := hx 0 (by decide)
   obtain ⟨b, e1, w1⟩ := hx 1 (by decide)
   obtain ⟨c, e2, w2⟩ := hx 2 (by decide)
   obtain ⟨d, e3, w3⟩ := hx 3 (by decide)
   refine ⟨⟨a, b, c, d⟩, ?_, w0, w1, w2, w3⟩
   match parts, hl with
   | [p, q, r, s], _ =>
    simp only [List.getD_cons_zero, List.getD_cons_succ] at e0 e1 e2 e3
    subst e0 e1 e2 e3; rfl
theorem opens_raws (N : Nat) : OpensS enc Tryd.prog w base spare held N 22 fun x => ∃ zs : List GRaw, x = [AV.ds true (zs.flatMap encGRaw) zs.length false] ∧ zs.length * 40 ≤ 140737488351232 ∧ ∀ y ∈ zs, okRaw y := by
 refine ((zt3 (N := N) Tryd.underlying22 (by decide +kernel) (opens_raw N)).mono ?_).less
 rintro x ⟨es, rfl, h1, h2, _⟩
 obtain ⟨l, e1, e2, e3⟩ := flat_of fun y hy => (h1 y hy).1
 rw [show Tryd.prog.bytesOf 33 = 40 by kernel_rfl] at h2
 exact ⟨l, by rw [e1, e2], by rw [e2]; exact h2, e3⟩
end
end Go.Proofs.YtaddlmlpeghonaaDoor
end
section
namespace Go.Proofs.YtaddlmlpeghonaaDoor
open AM
def okOwn (y : GTree) : Prop := in64 y.fKind ∧ in64 y.fN ∧ y.fS.length ≤ 140737488351232 ∧ (y.fEntries.length * 32 ≤ 140737488351232 ∧ ∀ e ∈ y.fEntries, in64 e.fTag ∧ e.fTrees.length * 80 ≤ 140737488351232) ∧ (y.fRest.length * 40 ≤ 140737488351232 ∧ ∀ r ∈ y.fRest, okRaw r)
def okDeep : Nat → GTree → Prop
 | 0, t => okOwn t
 | d + 1, t => okOwn t ∧ ∀ x ∈ kids t, okDeep d x
def okTree (t : GTree) : Prop := ∀ d, okDeep d t
def okEntry (e : GEntry) : Prop := in64 e.fTag ∧ e.fTrees.length * 80 ≤ 140737488351232 ∧ ∀ x ∈ e.fTrees, okTree x
section
variable {H : Type} {enc : TypeId × Value → H} {w : World} {base : Nat} {spare : Nat → Bool} {held : Bool}
theorem opens_Entry {N : Nat} (ih : OpensS enc Tryd.prog w base spare held N 42 fun x => ∃ y : GTree, x = encGTree y ∧ okTree y) : OpensS enc Tryd.prog w base spare held N 61 fun x => ∃ y : GEntry, x = encGEntry y ∧ okEntry y := by
 have ts : OpensS enc Tryd.prog w base spare held N 59 fun x => ∃ zs : List GTree, x = [AV.ds true (zs.flatMap encGTree) zs.length false] ∧ zs.length * 80 ≤ 140737488351232 ∧ ∀ y ∈ zs, okTree y := by
  refine ((zt3 (N := N) Tryd.underlying59 (by decide +kernel) ih).mono ?_).less
  rintro x ⟨es, rfl, h1, h2, _⟩
  obtain ⟨l, e1, e2, e3⟩ := flat_of fun y hy => (h1 y hy).1
  rw [show Tryd.prog.bytesOf 42 = 80 by kernel_rfl] at h2
  exact ⟨l, by rw [e1, e2], by rw [e2]; exact h2, e3⟩
 refine ((zX2 (N := N) (A := fun j x => if j = 0 then ∃ z : Int, x = [.int .i64 z] ∧ in64 z else ∃ zs : List GTree, x = [AV.ds true (zs.flatMap encGTree) zs.length false] ∧ zs.length * 80 ≤ 140737488351232 ∧ ∀ y ∈ zs, okTree y) Tryd.underlying61 (by decide +kernel) ?_).mono ?_).less
 · intro j f hf
   match j with
   | 0 => cases hf; exact zo2
   | 1 => cases hf; exact ts
   | j + 2 => simp at hf
 · rintro x ⟨parts, rfl, hl, hx⟩
   obtain ⟨a0, e0, w0⟩ := hx 0 (by decide)
   obtain ⟨a1, e1, w1⟩ := hx 1 (by decide)
   refine ⟨⟨a0, a1⟩, ?_, w0, w1⟩
   match parts, hl with
   | [p0, p1], _ =>
    simp only [List.getD_cons_zero, List.getD_cons_succ] at e0 e1
    subst e0 e1; rw [zB]; rfl
theorem opens_Tree : ∀ N : Nat, OpensS enc Tryd.prog w base spare held N 42 fun x => ∃ y : GTree, x = encGTree y ∧ okTree y
 | 0 => fun n cs y hy hN hs => absurd hN (Nat.not_lt_zero _)
 | N + 1 => by
  have es : OpensS enc Tryd.prog w base spare held N 40 fun x => ∃ zs : List GEntry, x = [AV.ds true (zs.flatMap encGEntry) zs.length false] ∧ zs.length * 32 ≤ 140737488351232 ∧ ∀ y ∈ zs, okEntry y := by
   refine ((zt3 (N := N) Tryd.underlying40 (by decide +kernel) (opens_Entry (opens_Tree N))).mono ?_).less
   rintro x ⟨es, rfl, h1, h2, _⟩
   obtain ⟨l, e1, e2, e3⟩ := flat_of fun y hy => (h1 y hy).1
   rw [show Tryd.prog.bytesOf 61 = 32 by kernel_rfl] at h2
   exact ⟨l, by rw [e1, e2], by rw [e2]; exact h2, e3⟩
  refine ((zX2 (N := N) (A := fun j x => if j < 2 then ∃ z : Int, x = [.int .i64 z] ∧ in64 z else if j = 2 then ∃ z : List UInt8, x = [.str z] ∧ z.length ≤ 140737488351232 else if j = 3 then ∃ zs : List GEntry, x = [AV.ds true (zs.flatMap encGEntry) zs.length false] ∧ zs.length * 32 ≤ 140737488351232 ∧ ∀ y ∈ zs, okEntry y else ∃ zs : List GRaw, x = [AV.ds true (zs.flatMap encGRaw) zs.length false] ∧ zs.length * 40 ≤ 140737488351232 ∧ ∀ y ∈ zs, okRaw y) Tryd.underlying42 (by decide +kernel) ?_).mono ?_)
  · intro j f hf
    match j with
    | 0 => cases hf; exact zo2
    | 1 => cases hf; exact zo2
    | 2 => cases hf; exact opens_str
    | 3 => cases hf; exact es
    | 4 => cases hf; exact opens_raws N
    | j + 5 => simp at hf
  · rintro x ⟨parts, rfl, hl, hx⟩
    obtain ⟨a0, e0, w0⟩ := hx 0 (by decide)
    obtain ⟨a1, e1, w1⟩ := hx 1 (by decide)
    obtain ⟨a2, e2, w2⟩ := hx 2 (by decide)
    obtain ⟨a3, e3, w3, w3'⟩ := hx 3 (by decide)
    obtain ⟨a4, e4, w4⟩ := hx 4 (by decide)
    have own : okOwn (⟨a0, a1, a2, a3, a4⟩ : GTree) := ⟨w0, w1, w2, ⟨w3, fun e he => ⟨(w3' e he).1, (w3' e he).2.1⟩⟩, w4⟩
    refine ⟨⟨a0, a1, a2, a3, a4⟩, ?_, fun d => ?_⟩
    · match parts, hl with
      | [p0, p1, p2, p3, p4], _ =>
       simp only [List.getD_cons_zero, List.getD_cons_succ] at e0 e1 e2 e3 e4
       subst e0 e1 e2 e3 e4; rw [zR]; rfl
    · cases d with
      | zero => exact own
      | succ d =>
       refine ⟨own, fun x hx => ?_⟩
       obtain ⟨e, he, hxe⟩ := List.mem_flatMap.1 hx
       exact (w3' e he).2.2 x hxe d
theorem opens_Tree' (N : Nat) : OpensS enc Tryd.prog w base spare held N 42 fun x => ∃ y : GTree, x = cellsGTree y ∧ okTree y := (opens_Tree N).mono fun x ⟨y, h1, h2⟩ => ⟨y, by rw [h1, zR], h2⟩
end
theorem szT_of : ∀ (d : Nat) (t : GTree), okDeep d t → (∀ e, restT e t) → szT d t
 | 0, t, h, hr => ⟨h.2.1, Nat.le_trans (hr 0) (by decide), fun r hm => (h.2.2.2.2.2 r hm).2.2.1⟩
 | d + 1, t, h, hr => ⟨⟨h.1.2.1, Nat.le_trans (hr 1).1 (by decide), fun r hm => (h.1.2.2.2.2.2 r hm).2.2.1⟩, fun x hx => szT_of d x (h.2 x hx) fun e => (hr (e + 1)).2 x hx⟩
end Go.Proofs.YtaddlmlpeghonaaDoor
end
