/- Parts of the proof, cut down to what it needs. -/
import Derived.Test.YtaddlmlpeghonaaDoorWSl
import Derived.Test.YtaddlmlpeghonaaDoorWCd
import Derived.Test.YtaddlmlpeghonaaDoorRows
import Derived.Test.YtaddlmlpeghonaaDoorChecked
import Derived.Test.YtaddlmlpeghonaaDoorTie
import Derived.ProofKit
import Derived.OpenShut
import Derived.ShutString
import Derived.ChangeOld
import Derived.ChangeSame
import Derived.ChangeVars
import Derived.JoinedOf
import Derived.RowKit
import Derived.LaidLaws
import Derived.LaidHandle
import Derived.Lib.LaidIn
import Derived.Lib.LaidU8T
import Derived.SevenTiedAt
set_option linter.constructorNameAsVariable false
set_option linter.unusedSimpArgs false
set_option linter.unusedVariables false
namespace Go.Proofs.YtaddlmlpeghonaaDoor
open _root_.List renaming length → qc, flatMap → qg, length_append → qi, length_cons → qk, length_nil → qn, mem_cons_self → qo, mem_cons_of_mem → qp, append_assoc → qr, getD_eq_getElem?_getD → qs, append_nil → qx, map_nil → qy, length_eq_zero_iff → qz, nil_append → qA, cons_append → qC, mem_cons → qD, replicate → qF, length_singleton → qG, drop_zero → qJ, getElem?_append_left → qK, map_cons → qM, getElem?_eq_getElem → qO, flatMap_cons → qP, map_append → qR, getElem?_eq_some_iff → qU, length_map → qV, range_zero → qY, all_cons → qZ, flatMap_append → q1, all_eq_true → q3, getElem?_set_ne → q5, take_of_length_le → uc, getElem?_append_right → ue, all_nil → uf, range_succ → ug, take_length → ui, pairwise_cons → uj, take_append_drop → uk, flatMap_nil → un, getElem?_set_self → uo, mem_append_right → uq, getElem?_eq_none → ur, filter_cons → ut, mem_map → uv, range → uz, set_cons_zero → uA, mem_append → uC, mem_singleton → uD, length_take → uF, length_drop → uG, getElem?_cons_zero → uH, getElem?_cons_succ → uI, set_cons_succ → uO
open _root_.Option renaming bind_some → qf, map_some → ux, getD_some → uN
open _root_.Nat renaming reduceEqDiff → qa, reduceLT → qb, reduceAdd → qd, reduceLeDiff → qe, le_refl → qq, zero_add → qt, lt_succ_self → qu, reduceMul → qw, reduceSub → qL, mul_le_mul_right → qQ, lt_of_lt_of_le → ua, reduceMod → ul, zero_le → um, le_trans → uu, zero_mul → uy, sub_zero → uL, sub_self → uM, succ_mul → uP, add_zero → uQ, add_mul → uR
open _root_.Bool renaming and_eq_true → ql, or_eq_true → qH, not_false → qI, and_self → qS, false_eq_true → qT, or_true → qW, not_true → qX, and_true → q2, or_false → ub, and_false → ud, not_eq_true' → uw, true_and → uE, false_ne_true → uJ, false_or → uK
open _root_.Int renaming toNat → qB, toNat_natCast → qN
open _root_.BitVec renaming ofInt → qv, toNat → uh
open _root_.Array renaming length_toList → q9, getD_eq_getD_getElem? → uB, getElem?_eq_getElem → uS
open _root_.UInt8 renaming ofNat → q7
open Result renaming andThen_ok → qj
open Sem renaming run_bind → qm, run_pure → qE
open _root_.Go.Proofs.Tryd renaming prog → qh
section
set_option maxRecDepth 4000
open AM
theorem insR_bytes (r : GRaw) : ∀ l : List GRaw, (xL (vae r l)).length = (Xa r).length + (xL l).length
 | [] => by rw [vae, xx, qi]
 | x :: l => by
  rw [vae]; split
  · rw [xx, qi]
  rw [xx, qi, insR_bytes r l, xx, qi]; omega
theorem srtA_bytes : ∀ l S : List GRaw, (xL (vaS l S)).length = (xL S).length + (xL l).length
 | [], S => rfl
 | r :: l, S => by rw [vaS, srtA_bytes, insR_bytes, xx, qi]; omega
theorem srt_bytes (l : List GRaw) : (xL (srt l)).length = (xL l).length := by rw [srt, srtA_bytes]; exact qt _
theorem vb_mono {a b : Nat} (h : a ≤ b) : (vb a).length ≤ (vb b).length := by
 induction b using Nat.strongRecOn generalizing a with
 | ind b ih =>
  by_cases ha : a < 128
  · rw [vb_lt ha]; exact vb_pos b
  rw [vb_ge ha, vb_ge (n := b) (by omega), qk, qk]
  exact Nat.succ_le_succ (ih (b / 128) (by omega) (Nat.div_le_div_right h))
theorem rawL_app {enc : GTree → Option (List UInt8)} {tag : Int} {x : GTree} {q : GRaw} (hq : vas enc tag x = some q) : ∀ {l : List GTree} {L : List GRaw}, rawL enc tag l = some L → rawL enc tag (l ++ [x]) = some (L ++ [q])
 | [], L, h => by
  cases h
  rw [qA, rawL, hq]; rfl
 | y :: l, L, h => by
  obtain ⟨r, hr, h⟩ := bind_some h
  obtain ⟨L', hL, h⟩ := bind_some h
  cases h
  rw [qC, rawL, hr, qf, rawL_app hq hL]; rfl
theorem rawE_put {enc : GTree → Option (List UInt8)} {t : Int} {rep : Prop} [Decidable rep] {x : GTree} {q : GRaw} (hq : vas enc t x = some q) : ∀ {es : List GEntry} {L : List GRaw}, XM enc es = some L → ∃ L', XM enc (Za t rep x es) = some L' ∧ (xL L').length ≤ (xL L).length + (Xa q).length
 | [], L, h => by
  cases h
  refine ⟨[q], ?_, ?_⟩
  · rw [Za, XM, wg, xF, rawL, hq]; rfl
  rw [xx, qi]; omega
 | e :: es, L, h => by
  obtain ⟨a, ha, h⟩ := bind_some h
  obtain ⟨m, hm, h⟩ := bind_some h
  cases h
  rw [Za]
  split
  · obtain ⟨L', h1, h2⟩ := rawE_put (rep := rep) hq hm
    refine ⟨a ++ L', ?_, ?_⟩
    · rw [XM, ha, qf, h1]; rfl
    rw [wV, wV, qi, qi]; omega
  split
  · rename_i heq
    rw [heq] at ha
    by_cases hr : rep
    · refine ⟨(a ++ [q]) ++ m, ?_, ?_⟩
      · rw [XM, wg, xF, if_pos hr, rawL_app hq ha, qf, hm]; rfl
      simp only [wV, xx, qi]; show _ + (_ + 0) + _ ≤ _; omega
    refine ⟨[q] ++ m, ?_, ?_⟩
    · rw [XM, wg, xF, if_neg hr, qA, rawL, hq, qf]
      rw [rawL, qf, qf, hm]; rfl
    simp only [wV, xx, qi]; show _ + 0 + _ ≤ _; omega
  refine ⟨q :: (a ++ m), ?_, ?_⟩
  · rw [XM, wg, xF, rawL, hq, qf, rawL, qf, qf, XM, ha, qf, hm]; rfl
  rw [xx, qi]; omega
theorem va0 {enc : GTree → Option (List UInt8)} {p : GEntry → Bool} : ∀ {es : List GEntry} {L : List GRaw}, XM enc es = some L → ∃ L', XM enc (es.filter p) = some L' ∧ (xL L').length ≤ (xL L).length
 | [], L, h => ⟨L, h, qq _⟩
 | e :: es, L, h => by
  obtain ⟨a, ha, h⟩ := bind_some h
  obtain ⟨m, hm, h⟩ := bind_some h
  cases h
  obtain ⟨L', h1, h2⟩ := va0 (p := p) hm
  rw [ut]
  split
  · refine ⟨a ++ L', ?_, ?_⟩
    · rw [XM, ha, qf, h1]; rfl
    rw [wV, wV, qi, qi]; omega
  exact ⟨L', h1, by rw [wV, qi]; omega⟩
theorem putE_ok {P : Int → GTree → Prop} {t : Int} {rep : Prop} [Decidable rep] {x : GTree} {e : GEntry} (hx : P t x) : ∀ {es : List GEntry}, (∀ a ∈ es, ∀ z ∈ a.fTrees, P a.fTag z) → e ∈ Za t rep x es → e ∈ es ∨ (e.fTag = t ∧ (¬ rep → e.fTrees.length = 1) ∧ 1 ≤ e.fTrees.length ∧ e.fTrees.length = Xo t rep es ∧ ∀ z ∈ e.fTrees, P t z)
 | [], _, h => by
  rw [Za, uD] at h; subst h
  refine Or.inr ⟨rfl, fun _ => rfl, qq _, rfl, fun z hz => ?_⟩
  rw [xF, uD] at hz; rw [hz]; exact hx
 | a :: es, hP, h => by
  rw [Za] at h; rw [Xo]
  split at h
  · rename_i hlt
    rw [if_pos hlt]
    rcases qD.1 h with rfl | h
    · exact Or.inl (qo ..)
    rcases putE_ok (P := P) hx (fun b hb => hP b (qp _ hb)) h with h | h
    · exact Or.inl (qp _ h)
    exact Or.inr h
  rename_i hlt
  rw [if_neg hlt]
  split at h
  · rename_i heq
    rw [if_pos heq]
    rcases qD.1 h with rfl | h
    · refine Or.inr ⟨rfl, fun hr => ?_, ?_, ?_, fun z hz => ?_⟩
      · rw [xF, if_neg hr]; rfl
      · rw [xF, qi, qG]; omega
      · rw [xF, qi, qG]; split <;> rfl
      rw [xF] at hz
      rcases uC.1 hz with hz | hz
      · split at hz
        · rw [← heq]; exact hP a (qo ..) z hz
        cases hz
      rw [uD] at hz; rw [hz]; exact hx
    exact Or.inl (qp _ h)
  rename_i hne
  rw [if_neg hne]
  rcases qD.1 h with rfl | h
  · refine Or.inr ⟨rfl, fun _ => rfl, qq _, rfl, fun z hz => ?_⟩
    rw [xF, uD] at hz; rw [hz]; exact hx
  exact Or.inl h
theorem oneD_ok {s : GSchema} {d : Nat} {y : GType} {r : GRaw} (ih : ∀ m b, (YX s d m b).2 = 0 → okT s d m (YX s d m b).1 ∧ ∃ c, YW d (YX s d m b).1 = some c ∧ c.length ≤ b.length) (hr : ZD r) (h0 : (oneD (YX s d) s y r).2 = 0) :
 okV (okT s d) s y (oneD (YX s d) s y r).1 ∧ ∃ q, vas (YW d) r.fTag (oneD (YX s d) s y r).1 = some q ∧ (Xa q).length ≤ (Xa r).length := by
 obtain ⟨hc1, hc2, hc⟩ := Ze hr.1
 by_cases hw : (y.fKind = 4 ∨ y.fKind = 5 ∨ y.fKind = 7) ∧ r.fWire = 1 ∨ ¬ (y.fKind = 4 ∨ y.fKind = 5 ∨ y.fKind = 7) ∧ r.fWire = 0
 · rw [Xw hw] at h0 ⊢
   have hnum : r.fWire = 0 → ∀ x : GTree, x = ⟨1, r.fN, [], [], []⟩ → ∃ q, vas (YW d) r.fTag x = some q ∧ (Xa q).length ≤ (Xa r).length := by
    intro h x hx
    obtain ⟨h1, h2⟩ : r.fWire = 0 ∧ r.fB = [] := by
     rcases hc with hc | hc
     · exact hc
     omega
    refine ⟨⟨r.fTag, 0, r.fN, []⟩, ?_, ?_⟩
    · rw [hx, vas, gt_kind, if_pos rfl]; rfl
    have : (⟨r.fTag, 0, r.fN, []⟩ : GRaw) = r := by cases r; simp only at h1 h2 ⊢; rw [h1, h2]
    rw [this]; exact qq _
   have htext : r.fWire = 1 → r.fN = 0 ∧ r.fB.length ≤ 4096 := by
    intro h
    rcases hc with hc | hc
    · omega
    exact hc.2
   have hstr : r.fWire = 1 → ∀ x : GTree, x = ⟨2, 0, r.fB, [], []⟩ → ∃ q, vas (YW d) r.fTag x = some q ∧ (Xa q).length ≤ (Xa r).length := by
    intro h x hx
    obtain ⟨h1, h2⟩ := htext h
    refine ⟨⟨r.fTag, 1, 0, r.fB⟩, ?_, ?_⟩
    · rw [hx, vas, gt_kind, if_neg (by decide), if_pos rfl, gt_s, if_neg (by omega)]
    have : (⟨r.fTag, 1, 0, r.fB⟩ : GRaw) = r := by cases r; simp only at h h1 ⊢; rw [h, h1]
    rw [this]; exact qq _
   unfold okV
   by_cases h3 : y.fKind = 3 ∨ y.fKind = 6
   · rw [if_pos h3] at h0 ⊢
     have w0 : r.fWire = 0 := by rcases hw with hw | hw; omega; exact hw.2
     rw [if_neg (by omega), if_neg (by omega)]
     by_cases hn : xj y r.fN = true
     · rw [if_pos hn] at h0 ⊢
       exact ⟨⟨rfl, hr.2, fun _ => hn⟩, hnum w0 _ rfl⟩
     rw [if_neg hn] at h0; exact absurd h0 (by decide)
   rw [if_neg h3] at h0 ⊢
   by_cases h4 : y.fKind = 4
   · have w1 : r.fWire = 1 := by rcases hw with hw | hw; exact hw.2; omega
     rw [if_pos h4] at h0 ⊢
     rw [if_neg (by omega), if_pos (Or.inl h4)]
     by_cases hn : vaU r.fB = true
     · rw [if_pos hn] at h0 ⊢
       exact ⟨⟨rfl, (htext w1).2, fun _ => hn⟩, hstr w1 _ rfl⟩
     rw [if_neg hn] at h0; exact absurd h0 (show ¬ ((Zv, (9 : Int)).2 = 0) by decide)
   rw [if_neg h4] at h0 ⊢
   by_cases h7 : y.fKind = 7
   · have w1 : r.fWire = 1 := by rcases hw with hw | hw; exact hw.2; omega
     rw [if_pos h7] at h0 ⊢
     rw [if_pos h7]
     obtain ⟨hok, c, hc', hl⟩ := ih _ _ h0
     have hk3 : (YX s d (msgOf s y.fName) r.fB).1.fKind = 3 := by
      cases d with
      | zero => exact hok.elim
      | succ d => exact hok.1
     refine ⟨⟨hk3, hok⟩, ⟨r.fTag, 1, 0, c⟩, ?_, ?_⟩
     · rw [vas, if_neg (by omega), if_neg (by omega), hc']; rfl
     have hv := vb_mono hl
     have hkey : va8 (⟨r.fTag, 1, 0, c⟩ : GRaw) = va8 r := by unfold va8; rw [w1]
     unfold Xa
     rw [hkey, gr_wire, if_neg (by decide), w1, if_neg (by decide), gr_b]
     simp only [qi]; omega
   rw [if_neg h7] at h0 ⊢
   rw [if_neg h7]
   by_cases h5 : y.fKind = 5
   · have w1 : r.fWire = 1 := by rcases hw with hw | hw; exact hw.2; omega
     rw [if_pos w1, if_pos (Or.inr h5)]
     exact ⟨⟨rfl, (htext w1).2, fun h => absurd h h4⟩, hstr w1 _ rfl⟩
   have w0 : r.fWire = 0 := by rcases hw with hw | hw; omega; exact hw.2
   rw [if_neg (show ¬ r.fWire = 1 by omega), if_neg (by omega)]
   exact ⟨⟨rfl, hr.2, fun h => absurd h h3⟩, hnum w0 _ rfl⟩
 exfalso
 unfold oneD at h0
 rw [if_neg ?_] at h0
 · exact absurd h0 (show ¬ ((Zv, (8 : Int)).2 = 0) by decide)
 intro hc
 by_cases h : y.fKind = 4 ∨ y.fKind = 5 ∨ y.fKind = 7
 · rw [if_pos h] at hc; exact hw (Or.inl ⟨h, hc⟩)
 rw [if_neg h] at hc; exact hw (Or.inr ⟨h, hc⟩)
def okJ (s : GSchema) (d : Nat) (m : GMessage) (n : Nat) (es : List GEntry) (rest : List GRaw) : Prop :=
 es.Pairwise Yk ∧ (∀ e ∈ es, okN (okT s d) s m e) ∧ (∀ r ∈ rest, ZD r ∧ (zm m r.fTag).2 ≠ true) ∧ ∃ L, XM (YW d) es = some L ∧ (xL L).length + (xL rest).length ≤ n
theorem fldD_ok {s : GSchema} {d : Nat} {m : GMessage} (ih : ∀ m b, (YX s d m b).2 = 0 → okT s d m (YX s d m b).1 ∧ ∃ c, YW d (YX s d m b).1 = some c ∧ c.length ≤ b.length) : ∀ {l : List GRaw} {es : List GEntry} {rest : List GRaw} {n : Nat}, (∀ r ∈ l, ZD r) → okJ s d m n es rest → (YU m (oneD (YX s d) s) l es rest).2 = 0 →
 ∃ es' rest', okJ s d m (n + (xL l).length) es' rest' ∧ YU m (oneD (YX s d) s) l es rest = (⟨3, 0, [], zdel m es', srt rest'⟩, 0)
 | [], es, rest, n, _, hJ, _ => ⟨es, rest, hJ, rfl⟩
 | r :: l, es, rest, n, hr, hJ, h0 => by
  have hrr := hr r (qo ..)
  have hl : ∀ x ∈ l, ZD x := fun x hx => hr x (qp _ hx)
  have hc := Ze hrr.1
  obtain ⟨j1, j2, j3, L, j4, j5⟩ := hJ
  have en : n + (xL (r :: l)).length = (n + (Xa r).length) + (xL l).length := by rw [xx, qi]; omega
  rw [YU] at h0 ⊢
  rw [en]
  by_cases hk : (zm m r.fTag).2 = true
  · rw [if_pos hk] at h0 ⊢
    by_cases ho : (oneD (YX s d) s (zm m r.fTag).1.fType r).2 = 0
    · rw [if_pos ho] at h0 ⊢
      by_cases hp : Xo r.fTag ((zm m r.fTag).1.fLabel = 3) es ≤ 64
      · rw [if_pos hp] at h0 ⊢
        obtain ⟨hv, q, hq, hqb⟩ := oneD_ok ih hrr ho
        obtain ⟨L', hL', hLb⟩ := rawE_put (rep := (zm m r.fTag).1.fLabel = 3) hq j4
        refine fldD_ok ih hl ⟨Xj j1, fun e he => ?_, j3, L', hL', by omega⟩ h0
        rcases putE_ok (P := fun t z => okV (okT s d) s (zm m t).1.fType z) hv (fun a ha => (j2 a ha).2.2.2.2) he with h | ⟨a1, a2, a3, a4, a5⟩
        · exact j2 e h
        exact ⟨by rw [a1]; exact ⟨hc.1, hc.2.1⟩, by rw [a1]; exact hk, ⟨a3, by omega⟩, by rw [a1]; exact a2, by rw [a1]; exact a5⟩
      rw [if_neg hp] at h0; exact absurd h0 (show ¬ ((Zv, (4 : Int)).2 = 0) by decide)
    rw [if_neg ho] at h0; exact absurd h0 ho
  rw [if_neg hk] at h0 ⊢
  refine fldD_ok ih hl ⟨j1, j2, fun x hx => ?_, L, j4, ?_⟩ h0
  · rcases uC.1 hx with hx | hx
    · exact j3 x hx
    rw [uD] at hx; rw [hx]; exact ⟨hrr, hk⟩
  rw [wV, xx, qi, qi]; show _ + (_ + (_ + 0)) ≤ _; omega
theorem decM_ok {s : GSchema} : ∀ (d : Nat) (m : GMessage) (b : List UInt8), (YX s d m b).2 = 0 → okT s d m (YX s d m b).1 ∧ ∃ c, YW d (YX s d m b).1 = some c ∧ c.length ≤ b.length
 | 0, _, _, h => absurd h (show ¬ ((Zv, (10 : Int)).2 = 0) by decide)
 | d + 1, m, b, h => by
  rw [YX] at h ⊢
  by_cases hg : (getD b).2 = 0
  · rw [if_pos hg] at h ⊢
    obtain ⟨g1, g2, g3⟩ := getD_ok hg
    obtain ⟨es, rest, ⟨j1, j2, j3, L, j4, j5⟩, e⟩ := fldD_ok (decM_ok d) (n := 0) (es := []) (rest := []) g3 ⟨List.Pairwise.nil, (fun _ h => by cases h), (fun _ h => by cases h), [], rfl, qq _⟩ h
    rw [← g1] at j5
    rw [e]
    obtain ⟨L', f1, f2⟩ := va0 (p := fun e => !isZ m e) j4
    have hrl : rest.length ≤ 4096 := by have := XT rest; omega
    have hlen : (xL (srt (srt rest ++ L'))).length ≤ b.length := by
     rw [srt_bytes, wV, qi, srt_bytes]; omega
    refine ⟨⟨rfl, rfl, rfl, ?_, fun x hx => ?_, XP _, ?_, fun r hr => ?_⟩, xL (srt (srt rest ++ L')), ?_, hlen⟩
    · rw [gt_es]; exact List.Pairwise.filter _ j1
    · rw [gt_es, zdel, List.mem_filter, uw] at hx
      exact ⟨j2 x hx.1, hx.2⟩
    · rw [gt_rest, srt_len]; exact hrl
    · rw [gt_rest, srt_mem] at hr; exact j3 r hr
    rw [YW, gt_es, gt_rest, zdel, f1, qf, putB, if_neg (by omega)]
  rw [if_neg hg] at h; exact absurd h hg
end
section
set_option maxRecDepth 4000
open AM
theorem decM_enc {s : GSchema} {m : GMessage} {b : List UInt8} (h : (YX s 10 m b).2 = 0) : okT s 10 m (YX s 10 m b).1 ∧ ∃ c, xo (YX s 10 m b).1 = some (c, 0) ∧ c.length ≤ b.length ∧ c.length ≤ 4096 ∧ YX s 10 m c = ((YX s 10 m b).1, 0) := by
 obtain ⟨hok, c, hc, hl⟩ := decM_ok 10 m b h
 refine ⟨hok, c, ?_, hl, encT_le hc, decM_back 10 m _ c hok hc⟩
 rw [Encode_eq (okT_sz 10 10 m _ (qq _) hok), if_pos ⟨okT_check (qq _) hok, hok.1⟩, hc]; rfl
end
section
set_option maxRecDepth 4000
open AM

end
section
set_option maxRecDepth 4000
open AM
def szS (s : GSchema) : Prop := nmS s ∧ s.fMessages.length * 64 ≤ 140737488351232 ∧ s.fEnums.length * 40 ≤ 140737488351232 ∧ s.fMethods.length * 48 ≤ 140737488351232 ∧ (∀ m ∈ s.fMessages, m.fFields.length * 56 ≤ 140737488351232 ∧ m.fReserved.length * 8 ≤ 140737488351232) ∧ ∀ e ∈ s.fEnums, e.fValues.length * 24 ≤ 140737488351232
theorem ge_eta (e : GEnumeration) : (⟨e.fName, e.fValues⟩ : GEnumeration) = e := rfl
theorem gm_eta (m : GMessage) : (⟨m.fName, m.fFields, m.fReserved⟩ : GMessage) = m := rfl
theorem schema_l19 {s : GSchema} {M : List GMessage} (hs : szS s) : ∀ (B A : List GEnumeration) (i : Int), s.fEnums = A ++ B → zV.l19 s M B i A = some ⟨s.fName, M, s.fEnums, s.fMethods⟩
 | [], A, i, h => by rw [zV.l19, h, qx]
 | e :: B, A, i, h => by
  have hl : s.fEnums.length = A.length + (B.length + 1) := by rw [h, qi, qk]
  have h1 := hs.2.2.1
  have h2 := hs.2.2.2.2.2 e (by rw [h]; exact uq _ (qo ..))
  rw [zV.l19, xG (by omega), qf, xG (by omega), qf, ge_eta, schema_l19 hs B (A ++ [e]) _ (by rw [h, qr]; rfl)]
theorem schema_l10 {s : GSchema} (hs : szS s) : ∀ (B A : List GMessage) (i : Int), s.fMessages = A ++ B → zV.l10 s B i A = some s
 | [], A, i, h => by
  rw [zV.l10, schema_l19 hs s.fEnums [] 0 rfl]
  rw [qx] at h
  rw [← h]
 | m :: B, A, i, h => by
  have hl : s.fMessages.length = A.length + (B.length + 1) := by rw [h, qi, qk]
  have h1 := hs.2.1
  have h2 := hs.2.2.2.2.1 m (by rw [h]; exact uq _ (qo ..))
  rw [zV.l10, xG (by omega), qf, xO, xG (by omega), qf, qf, xG (by omega), qf, gm_eta, schema_l10 hs B (A ++ [m]) _ (by rw [h, qr]; rfl)]
theorem schema_eq {s : GSchema} (hs : szS s) : zV s = some s := by
 have := hs.2.2.2.1
 rw [zV, xG (by omega), qf, schema_l10 hs s.fMessages [] 0 rfl]
theorem few_l25 {m : GMessage} {x2 x3 : Int} {rec6 : Int → Int → Option Bool} (hr : ∃ b, rec6 (IntKind.i64.wrap (x2 + (qc m.fName : Int))) (IntKind.i64.wrap (x3 + 1)) = some b) : ∀ (l : List GField) (i : Int), ∃ b, zD.l25 x2 x3 rec6 m l i = some b
 | [], _ => by rw [zD.l25]; exact hr
 | f :: l, i => by
  rw [zD.l25]
  split
  · exact ⟨_, rfl⟩
  exact few_l25 hr l _
theorem few_l60 {x : Int} {rec43 : Int → Option Bool} (hr : ∃ b, rec43 (IntKind.i64.wrap (x + 1)) = some b) : ∀ (l : List GNamed) (i : Int), ∃ b, zD.l60 x rec43 l i = some b
 | [], _ => by rw [zD.l60]; exact hr
 | f :: l, i => by
  rw [zD.l60]
  split
  · exact ⟨_, rfl⟩
  exact few_l60 hr l _
theorem YR {α : Type} {l : List α} {j : Nat} (h : j < l.length) : Zj l (j : Int) = some (l[j]'h) :=
 idx_t (by omega) (by rw [qN]; exact qO h)
theorem few_l78 {s : GSchema} {n : Int} : ∀ (k j : Nat), 20 < k + j → j ≤ 20 → ∃ b, zD.l78 s n k (j : Int) = some b
 | 0, j, h, h' => by omega
 | k + 1, j, h, h' => by
  rw [zD.l78]
  split
  · rename_i hc
    simp only [ql, decide_eq_true_eq] at hc
    rw [YR (show j < s.fMethods.length by omega), qf]
    split
    · exact ⟨_, rfl⟩
    rw [yF (by omega) (by omega), show (j : Int) + 1 = ((j + 1 : Nat) : Int) by omega]
    exact few_l78 k (j + 1) (by omega) (by omega)
  exact ⟨_, rfl⟩
theorem few_l43 {s : GSchema} {n : Int} : ∀ (k j : Nat), 20 < k + j → j ≤ 20 → ∃ b, zD.l43 s n k (j : Int) = some b
 | 0, j, h, h' => by omega
 | k + 1, j, h, h' => by
  rw [zD.l43]
  split
  · rename_i hc
    simp only [ql, decide_eq_true_eq] at hc
    rw [YR (show j < s.fEnums.length by omega), qf]
    split
    · exact ⟨_, rfl⟩
    refine few_l60 ?_ _ _
    rw [yF (by omega) (by omega), show (j : Int) + 1 = ((j + 1 : Nat) : Int) by omega]
    exact few_l43 k (j + 1) (by omega) (by omega)
  exact few_l78 rounds 0 (by have := yZ; omega) (by omega)
theorem few_l6 {s : GSchema} : ∀ (k j : Nat) (n : Int), 20 < k + j → j ≤ 20 → ∃ b, zD.l6 s k n (j : Int) = some b
 | 0, j, n, h, h' => by omega
 | k + 1, j, n, h, h' => by
  rw [zD.l6]
  split
  · rename_i hc
    simp only [ql, decide_eq_true_eq] at hc
    rw [YR (show j < s.fMessages.length by omega), qf]
    split
    · exact ⟨_, rfl⟩
    refine few_l25 ?_ _ _
    rw [yF (x := (j : Int) + 1) (by omega) (by omega), show (j : Int) + 1 = ((j + 1 : Nat) : Int) by omega]
    exact few_l6 k (j + 1) _ (by omega) (by omega)
  exact few_l43 rounds 0 (by have := yZ; omega) (by omega)
theorem few_t (s : GSchema) : ∃ b, zD s = some b := few_l6 rounds 0 _ (by have := yZ; omega) (by omega)
end
section
set_option maxRecDepth 4000
open AM
def bt (a : List UInt8) (i : Nat) : Nat := (a.getD i 0).toNat
theorem bt_lt (a : List UInt8) (i : Nat) : bt a i < 256 := UInt8.toNat_lt _
theorem bt_get {a : List UInt8} {i : Nat} (h : i < a.length) : bt a i = (a[i]'h).toNat := by
 unfold bt; rw [qs, qO h]; rfl
theorem bt_drop (a : List UInt8) (p i : Nat) : bt (a.drop p) i = bt a (p + i) := by
 unfold bt; rw [qs, qs, List.getElem?_drop]
def decB (b : Nat → Nat) (n : Nat) : Nat × Nat :=
 if b 0 < 128 then (b 0, 1)
 else if b 0 / 32 = 6 ∧ (1 < n ∧ b 1 / 64 = 2) then
  (if 128 ≤ b 0 % 32 * 64 + b 1 % 64 then (b 0 % 32 * 64 + b 1 % 64, 2) else (65533, 1))
 else if b 0 / 16 = 14 ∧ (1 < n ∧ b 1 / 64 = 2) ∧ (2 < n ∧ b 2 / 64 = 2) then
  (if 2048 ≤ b 0 % 16 * 4096 + b 1 % 64 * 64 + b 2 % 64 ∧ Utf8.valid ((b 0 % 16 * 4096 + b 1 % 64 * 64 + b 2 % 64 : Nat) : Int) = true then (b 0 % 16 * 4096 + b 1 % 64 * 64 + b 2 % 64, 3) else (65533, 1))
 else if b 0 / 8 = 30 ∧ (1 < n ∧ b 1 / 64 = 2) ∧ (2 < n ∧ b 2 / 64 = 2) ∧ (3 < n ∧ b 3 / 64 = 2) then
  (if 65536 ≤ b 0 % 8 * 262144 + b 1 % 64 * 4096 + b 2 % 64 * 64 + b 3 % 64 ∧ Utf8.valid ((b 0 % 8 * 262144 + b 1 % 64 * 4096 + b 2 % 64 * 64 + b 3 % 64 : Nat) : Int) = true then (b 0 % 8 * 262144 + b 1 % 64 * 4096 + b 2 % 64 * 64 + b 3 % 64, 4) else (65533, 1))
 else (65533, 1)
theorem get_bt (a : List UInt8) (i : Nat) : (ByteArray.get! ⟨a.toArray⟩ i).toNat = bt a i := by
 unfold bt ByteArray.get!
 simp [qs, Array.getElem!_eq_getD]
 rfl
theorem decU_eq (a : List UInt8) (p : Nat) : ZQ a p = decB (fun k => bt a (p + k)) (a.length - p) := by
 have hs : (⟨a.toArray⟩ : ByteArray).size = a.length := rfl
 have hc : ∀ k, (p + k < a.length) = (k < a.length - p) := fun k => by rw [eq_iff_iff]; omega
 unfold ZQ Utf8.decode decB
 simp only [get_bt, hs, hc, Utf8.runeError, ql, decide_eq_true_eq, beq_iff_eq, and_assoc, ge_iff_le]
theorem decU_drop (a : List UInt8) (p : Nat) : ZQ (a.drop p) 0 = ZQ a p := by
 rw [decU_eq, decU_eq, uG]
 simp only [bt_drop, qt, uL]
theorem tail_eq {a : List UInt8} {i : Nat} : ww a (i : Int) = some (if i < a.length ∧ bt a i / 64 = 2 then ((bt a i % 64 : Nat) : Int) else -1) := by
 have hb := bt_lt a i
 rw [ww]
 by_cases h : i < a.length
 · rw [if_neg (by omega), YR h, qf, ← bt_get h]
   by_cases h1 : bt a i < 128
   · rw [decide_eq_true (by omega), qf, if_pos rfl, qf, if_pos rfl, if_neg (by omega)]
   rw [decide_eq_false (by omega), qf, if_neg (by decide), qf, ← bt_get h]
   by_cases h2 : 191 < bt a i
   · rw [decide_eq_true (by omega), qf, if_pos rfl, if_neg (by omega)]
   rw [decide_eq_false (by omega), qf, if_neg (by decide), qf, ← bt_get h, if_pos (by omega), yF (x := (bt a i : Int)) (by omega) (by omega), yF (by omega) (by omega)]
   congr 1; omega
 rw [if_pos (by omega), qf, if_pos rfl, qf, if_pos rfl, if_neg (by omega)]
theorem i32_in {x : Int} (h : 0 ≤ x) (h' : x < 2147483648) : IntKind.i32.wrap x = x := by rw [IntKind.wrap_i32]; omega
theorem l17_go {a : List UInt8} {p n least k v : Nat} (j j' : Nat) (hj' : j' = j + 1) (hj : j < n) (hp : p + j < 4611686018427387904) (hv : v < 1073741824) : yl.l17 a (p : Int) (n : Int) (least : Int) (k + 1) (v : Int) (j : Int) =
 if p + j < a.length ∧ bt a (p + j) / 64 = 2 then yl.l17 a (p : Int) (n : Int) (least : Int) k ((v * 64 + bt a (p + j) % 64 : Nat) : Int) (j' : Int) else some (0, 0, false) := by
 rw [yl.l17, if_pos (by omega), yF (x := (p : Int) + j) (by omega) (by omega), show (p : Int) + (j : Int) = ((p + j : Nat) : Int) by omega, tail_eq, qf]
 by_cases h : p + j < a.length ∧ bt a (p + j) / 64 = 2
 · rw [if_pos h, if_pos h, if_neg (by omega), yF (x := 64 * (v : Int)) (by omega) (by omega), yF (x := 64 * (v : Int) + _) (by omega) (by omega), yF (x := (j : Int) + 1) (by omega) (by omega), show 64 * (v : Int) + ((bt a (p + j) % 64 : Nat) : Int) = ((v * 64 + bt a (p + j) % 64 : Nat) : Int) by omega, show (j : Int) + 1 = (j' : Int) by omega]
 rw [if_neg h, if_neg h, if_pos (by omega)]
theorem l17_end {a : List UInt8} {p n least k v : Nat} : yl.l17 a (p : Int) (n : Int) (least : Int) (k + 1) (v : Int) (n : Int) = if v < least ∨ 1114111 < v ∨ (55296 ≤ v ∧ v ≤ 57343) then some (0, 0, false) else some ((v : Int), (n : Int), true) := by
 rw [yl.l17, if_neg (by omega)]
 by_cases h : v < least ∨ 1114111 < v ∨ (55296 ≤ v ∧ v ≤ 57343)
 · rw [if_pos h, if_pos (by simp only [qH, ql, decide_eq_true_eq]; omega)]
 rw [if_neg h, if_neg (by simp only [qH, ql, decide_eq_true_eq]; omega), i32_in (by omega) (by omega)]
theorem next_eq {a : List UInt8} {p : Nat} (hp : p < a.length) (hl : a.length < 2305843009213693952) : (yl a (p : Int) = some (0, 0, false) ∧ (ZQ a p) = (65533, 1)) ∨
 ∃ c m : Nat, yl a (p : Int) = some ((c : Int), (m : Int), true) ∧ ZQ a p = (c, m) ∧ 1 ≤ m ∧ m ≤ 4 ∧ (c = 65533 → 2 ≤ m) := by
 obtain ⟨K, hK⟩ : ∃ K, rounds = K + 5 := ⟨rounds - 5, by have := yZ; omega⟩
 have h0 := bt_lt a p
 have h1 := bt_lt a (p + 1)
 have h2 := bt_lt a (p + 2)
 have h3 := bt_lt a (p + 3)
 have hn : ∀ k, (k < a.length - p) = (p + k < a.length) := fun k => by rw [eq_iff_iff]; omega
 rw [decU_eq, decB]
 simp only [hn, uQ]
 rw [yl, if_neg (by simp only [qH, decide_eq_true_eq]; omega), YR hp, qf, ← bt_get hp, yF (x := (bt a p : Int)) (by omega) (by omega)]
 by_cases c1 : bt a p < 128
 · right
   rw [if_pos c1, if_pos (by omega), i32_in (by omega) (by omega)]
   exact ⟨bt a p, 1, rfl, rfl, by omega, by omega, by omega⟩
 rw [if_neg c1, if_neg (by omega)]
 by_cases c2 : bt a p / 32 = 6
 · rw [if_pos (by simp only [ql, decide_eq_true_eq]; omega), yl.j11, hK, yF (by omega) (by omega), show ((bt a p : Nat) : Int) - 192 = ((bt a p % 32 : Nat) : Int) by omega, show (2 : Int) = ((2 : Nat) : Int) from rfl, show (128 : Int) = ((128 : Nat) : Int) from rfl, show (1 : Int) = ((1 : Nat) : Int) from rfl, l17_go 1 2 rfl (by omega) (by omega) (by omega)]
   by_cases d1 : p + 1 < a.length ∧ bt a (p + 1) / 64 = 2
   · rw [if_pos d1, if_pos ⟨c2, d1⟩, show K + 4 = (K + 3) + 1 from rfl, l17_end]
     by_cases e1 : 128 ≤ bt a p % 32 * 64 + bt a (p + 1) % 64
     · rw [if_neg (by omega), if_pos e1]
       exact Or.inr ⟨_, _, rfl, rfl, by omega, by omega, by omega⟩
     rw [if_pos (by omega), if_neg e1]; exact Or.inl ⟨rfl, rfl⟩
   rw [if_neg d1, if_neg (fun h => d1 h.2), if_neg (by omega), if_neg (by omega)]
   exact Or.inl ⟨rfl, rfl⟩
 rw [if_neg (by simp only [ql, decide_eq_true_eq]; omega), if_neg (show ¬ (bt a p / 32 = 6 ∧ _) from fun h => c2 h.1)]
 by_cases c3 : bt a p / 16 = 14
 · rw [if_pos (by simp only [ql, decide_eq_true_eq]; omega), yl.j11, hK, yF (by omega) (by omega), show ((bt a p : Nat) : Int) - 224 = ((bt a p % 16 : Nat) : Int) by omega, show (3 : Int) = ((3 : Nat) : Int) from rfl, show (2048 : Int) = ((2048 : Nat) : Int) from rfl, show (1 : Int) = ((1 : Nat) : Int) from rfl, l17_go 1 2 rfl (by omega) (by omega) (by omega)]
   by_cases d1 : p + 1 < a.length ∧ bt a (p + 1) / 64 = 2
   · rw [if_pos d1, show K + 4 = (K + 3) + 1 from rfl, l17_go 2 3 rfl (by omega) (by omega) (by omega)]
     by_cases d2 : p + 2 < a.length ∧ bt a (p + 2) / 64 = 2
     · rw [if_pos d2, if_pos ⟨c3, d1, d2⟩, show K + 3 = (K + 2) + 1 from rfl, l17_end]
       have ev : (bt a p % 16 * 64 + bt a (p + 1) % 64) * 64 + bt a (p + 2) % 64 = bt a p % 16 * 4096 + bt a (p + 1) % 64 * 64 + bt a (p + 2) % 64 := by omega
       rw [ev]
       by_cases e1 : 2048 ≤ bt a p % 16 * 4096 + bt a (p + 1) % 64 * 64 + bt a (p + 2) % 64 ∧ Utf8.valid ((bt a p % 16 * 4096 + bt a (p + 1) % 64 * 64 + bt a (p + 2) % 64 : Nat) : Int) = true
       · have e2 := e1.2
         unfold Utf8.valid at e2
         simp only [qH, ql, decide_eq_true_eq] at e2
         rw [if_neg (by omega), if_pos e1]
         exact Or.inr ⟨_, _, rfl, rfl, by omega, by omega, by omega⟩
       have e2 := e1
       unfold Utf8.valid at e2
       simp only [qH, ql, decide_eq_true_eq] at e2
       rw [if_pos (by omega), if_neg e1]; exact Or.inl ⟨rfl, rfl⟩
     rw [if_neg d2, if_neg (fun h => d2 h.2.2), if_neg (by omega)]
     exact Or.inl ⟨rfl, rfl⟩
   rw [if_neg d1, if_neg (fun h => d1 h.2.1), if_neg (by omega)]
   exact Or.inl ⟨rfl, rfl⟩
 rw [if_neg (by simp only [ql, decide_eq_true_eq]; omega), if_neg (show ¬ (bt a p / 16 = 14 ∧ _) from fun h => c3 h.1)]
 by_cases c4 : bt a p / 8 = 30
 · rw [if_pos (by simp only [ql, decide_eq_true_eq]; omega), yl.j11, hK, yF (by omega) (by omega), show ((bt a p : Nat) : Int) - 240 = ((bt a p % 8 : Nat) : Int) by omega, show (4 : Int) = ((4 : Nat) : Int) from rfl, show (65536 : Int) = ((65536 : Nat) : Int) from rfl, show (1 : Int) = ((1 : Nat) : Int) from rfl, l17_go 1 2 rfl (by omega) (by omega) (by omega)]
   by_cases d1 : p + 1 < a.length ∧ bt a (p + 1) / 64 = 2
   · rw [if_pos d1, show K + 4 = (K + 3) + 1 from rfl, l17_go 2 3 rfl (by omega) (by omega) (by omega)]
     by_cases d2 : p + 2 < a.length ∧ bt a (p + 2) / 64 = 2
     · rw [if_pos d2, show K + 3 = (K + 2) + 1 from rfl, l17_go 3 4 rfl (by omega) (by omega) (by omega)]
       by_cases d3 : p + 3 < a.length ∧ bt a (p + 3) / 64 = 2
       · rw [if_pos d3, if_pos ⟨c4, d1, d2, d3⟩, show K + 2 = (K + 1) + 1 from rfl, l17_end]
         have ev : ((bt a p % 8 * 64 + bt a (p + 1) % 64) * 64 + bt a (p + 2) % 64) * 64 + bt a (p + 3) % 64 = bt a p % 8 * 262144 + bt a (p + 1) % 64 * 4096 + bt a (p + 2) % 64 * 64 + bt a (p + 3) % 64 := by omega
         rw [ev]
         by_cases e1 : 65536 ≤ bt a p % 8 * 262144 + bt a (p + 1) % 64 * 4096 + bt a (p + 2) % 64 * 64 + bt a (p + 3) % 64 ∧ Utf8.valid ((bt a p % 8 * 262144 + bt a (p + 1) % 64 * 4096 + bt a (p + 2) % 64 * 64 + bt a (p + 3) % 64 : Nat) : Int) = true
         · have e2 := e1.2
           unfold Utf8.valid at e2
           simp only [qH, ql, decide_eq_true_eq] at e2
           rw [if_neg (by omega), if_pos e1]
           exact Or.inr ⟨_, _, rfl, rfl, by omega, by omega, by omega⟩
         have e2 := e1
         unfold Utf8.valid at e2
         simp only [qH, ql, decide_eq_true_eq] at e2
         rw [if_pos (by omega), if_neg e1]; exact Or.inl ⟨rfl, rfl⟩
       rw [if_neg d3, if_neg (fun h => d3 h.2.2.2)]
       exact Or.inl ⟨rfl, rfl⟩
     rw [if_neg d2, if_neg (fun h => d2 h.2.2.1)]
     exact Or.inl ⟨rfl, rfl⟩
   rw [if_neg d1, if_neg (fun h => d1 h.2.1)]
   exact Or.inl ⟨rfl, rfl⟩
 rw [if_neg (by simp only [ql, decide_eq_true_eq]; omega), if_neg (show ¬ (bt a p / 8 = 30 ∧ _) from fun h => c4 h.1)]
 exact Or.inl ⟨rfl, rfl⟩
end
section
set_option maxRecDepth 4000
open AM
def rl (a : List UInt8) : Nat → Nat → Option (List Nat)
 | 0, _ => none
 | k + 1, p => if p < a.length then (if ZQ a p = (65533, 1) then none else (rl a k (p + (ZQ a p).2)).map ((ZQ a p).1 :: ·)) else some []
theorem rl_all {a : List UInt8} (hl : a.length ≤ 30000) : ∀ (k p : Nat) (l : List Int), a.length < p + k → 0 < k → p ≤ 40000 → l.length + (a.length - p) ≤ 40000 → xw.l8 a k l (p : Int) = some (match rl a k p with | some T => (l ++ T.map (fun c : Nat => (c : Int)), true) | none => ([], false))
 | 0, p, l, h, h0, _, _ => by omega
 | k + 1, p, l, h, _, hp, hll => by
  rw [xw.l8, rl]
  by_cases hpl : p < a.length
  · rw [if_pos (by omega), if_pos hpl]
    rcases next_eq hpl (by omega) with ⟨e, ed⟩ | ⟨c, m, e, ed, h1, h2, h3⟩
    · rw [e, qf, if_pos (by rfl), if_pos ed]
    rw [e, qf, if_neg (by simp), xG (by omega), qf, if_neg (fun h => by rw [ed] at h; simp only [Prod.mk.injEq] at h; have := h3 h.1; omega), ed]
    dsimp only
    rw [yF (by omega) (by omega), show (p : Int) + (m : Int) = ((p + m : Nat) : Int) by omega, rl_all hl k (p + m) _ (by omega) (by omega) (by omega) (by rw [qi, qG]; omega)]
    cases rl a k (p + m) with
    | none => rfl
    | some T => simp only [ux, qM, qr, qC, qA]
  rw [if_neg (by omega), if_neg hpl]; simp only [qy, qx]
theorem cut_drop {a : List UInt8} {p : Nat} (h : p < a.length) : YF a (p : Int) (a.length : Int) = a.drop p := by
 unfold YF
 rw [qN, qN, uc (by rw [uG]; omega)]
theorem rnext_eq {a : List UInt8} {p : Nat} (h : p < a.length) (hl : a.length ≤ 30000) : ∃ r, xM a (p : Int) = some r ∧ (r.2.2 = true ↔ ZQ a p ≠ (65533, 1)) := by
 have hd : w8 (YF a (p : Int) (a.length : Int)) = (((ZQ a p).1 : Int), ((ZQ a p).2 : Int)) := by
  rw [cut_drop h, w8, dec0, if_neg (fun hc => by have := congrArg qc hc; rw [uG, qn] at this; omega), decU_drop]
 rw [xM, if_neg (by simp only [qH, decide_eq_true_eq]; omega), YD (by omega), qf, bnd, hd]
 rcases next_eq h (by omega) with ⟨_, ed⟩ | ⟨c, m, _, ed, h1, h2, h3⟩
 · rw [ed]
   refine ⟨_, by rw [if_pos (by simp)], ?_⟩
   simp
 rw [ed]
 have hne : ¬ ((c, m) = (65533, 1)) := fun hc => by simp only [Prod.mk.injEq] at hc; have := h3 hc.1; omega
 refine ⟨_, by rw [if_neg (by simp only [ql, decide_eq_true_eq]; omega)], ?_⟩
 simp [hne]
theorem rl_valid {a : List UInt8} (hl : a.length ≤ 30000) : ∀ (k p : Nat), a.length < p + k → 0 < k → yp.l4 a k p = some (rl a k p).isSome
 | 0, p, h, h0 => by omega
 | k + 1, p, h, _ => by
  rw [yp.l4, rl]
  by_cases hpl : p < a.length
  · rw [if_pos hpl, if_pos hpl]
    have hm := ZK a p
    have ih := rl_valid hl k (p + (ZQ a p).2) (by omega) (by omega)
    by_cases hb : ZQ a p = (65533, 1)
    · obtain ⟨r, e, hr⟩ := rnext_eq hpl hl
      rw [if_pos hb, if_pos (by rw [hb]; rfl), e, qf, if_pos]
      · rfl
      cases hv : r.2.2 with
      | true => exact absurd hb (hr.1 hv)
      | false => rfl
    rw [if_neg hb, Option.isSome_map]
    split
    · obtain ⟨r, e, hr⟩ := rnext_eq hpl hl
      rw [e, qf, if_neg (by rw [hr.2 hb]; decide), ih]
    exact ih
  rw [if_neg hpl, if_neg hpl]; rfl
theorem rl_count {a : List UInt8} (hl : a.length ≤ 30000) : ∀ (k p : Nat) (x : Nat) (T : List Nat), x + (a.length - p) ≤ 40000 → rl a k p = some T → yA.l9 a k p (x : Int) = some ((x + T.length : Nat) : Int)
 | 0, p, x, T, _, h => by cases h
 | k + 1, p, x, T, hx, h => by
  rw [rl] at h
  rw [yA.l9]
  by_cases hpl : p < a.length
  · have hm := ZK a p
    rw [if_pos hpl] at h ⊢
    split at h
    · cases h
    obtain ⟨T', hT, rfl⟩ := Option.map_eq_some_iff.1 h
    rw [yF (by omega) (by omega), show (x : Int) + 1 = ((x + 1 : Nat) : Int) by omega, rl_count hl k _ (x + 1) T' (by omega) hT, qk]
    congr 2; omega
  rw [if_neg hpl] at h ⊢
  cases h; rfl
def lod (c : Nat) : Bool := yX (c : Int) || xz (c : Int)
theorem letter_eq (c : Int) : yP c = yX c := by
 rw [Bool.eq_iff_iff]
 unfold yP yP.j6 yX xR bnd
 by_cases h1 : c = 95
 · subst h1; decide
 by_cases h2 : c = 215
 · subst h2; decide
 by_cases h3 : c = 247
 · subst h3; decide
 by_cases h4 : c = 930
 · subst h4; decide
 simp only [h1, h2, h3, h4, if_false, decide_false, qT, Bool.ite_eq_true_distrib, qH, ql, decide_eq_true_eq, qI, and_true, or_false, ite_then_self]
 (repeat' split) <;> first | omega | simp_all | (simp_all; omega)
theorem digit_eq (c : Int) : wm c = xz c := rfl
theorem key_eq (a : List UInt8) : yT a = yQ a := rfl
theorem rl_name {a : List UInt8} : ∀ (k p : Nat) (T : List Nat), 0 < p → rl a k p = some T → yo.l11 a k p = some (T.all lod)
 | 0, p, T, _, h => by cases h
 | k + 1, p, T, h0, h => by
  rw [rl] at h
  rw [yo.l11]
  by_cases hpl : p < a.length
  · have hm := ZK a p
    rw [if_pos hpl] at h ⊢
    split at h
    · cases h
    obtain ⟨T', hT, rfl⟩ := Option.map_eq_some_iff.1 h
    have ih := rl_name k _ T' (by omega) hT
    rw [letter_eq, digit_eq, ih, qZ, lod]
    unfold bnd
    dsimp only
    rw [if_neg (show ¬ ((p : Nat) : Int) = 0 by omega)]
    cases yX ((ZQ a p).1 : Int) <;> cases xz ((ZQ a p).1 : Int) <;> rfl
  rw [if_neg hpl] at h ⊢
  cases h; rfl
theorem ref_l14 {L : List Nat} {v : Bool} (hL : L.length ≤ 40000) : ∀ (k i : Nat), L.length < k + i → i ≤ L.length → yM.l14 (L.map (fun c : Nat => (c : Int)), v) k (i : Int) = some ((L.drop i).all lod)
 | 0, i, h, h' => by omega
 | k + 1, i, h, h' => by
  rw [yM.l14]
  by_cases hi : i < L.length
  · have hi' : i < (L.map (fun c : Nat => (c : Int))).length := by rw [qV]; exact hi
    rw [if_pos (by dsimp only; omega), YR hi', qf, List.getElem_map, yF (by omega) (by omega), show (i : Int) + 1 = ((i + 1 : Nat) : Int) by omega, ref_l14 hL k (i + 1) (by omega) (by omega), List.drop_eq_getElem_cons hi, qZ, lod]
    unfold bnd
    dsimp only
    cases yX (L[i] : Int) <;> cases xz (L[i] : Int) <;> rfl
  rw [if_neg (by dsimp only; rw [qV]; omega), List.drop_of_length_le (by omega)]; rfl
theorem rl_len {a : List UInt8} : ∀ (k p : Nat) (T : List Nat), rl a k p = some T → T.length ≤ a.length - p
 | 0, p, T, h => by cases h
 | k + 1, p, T, h => by
  rw [rl] at h
  have hm := ZK a p
  split at h
  · split at h
    · cases h
    obtain ⟨T', hT, rfl⟩ := Option.map_eq_some_iff.1 h
    have := rl_len k _ T' hT
    rw [qk]; omega
  cases h; exact um _
theorem name_eq {a : List UInt8} (hl : a.length ≤ 30000) : yM a = yo a := by
 have hr := yZ
 have e1 := rl_all hl rounds 0 [] (by omega) (by omega) (by omega) (by rw [qn]; omega)
 have e2 := rl_valid hl rounds 0 (by omega) (by omega)
 cases hT : rl a rounds 0 with
 | none =>
  rw [hT] at e1 e2
  rw [yM, yo, yA, show xw a = _ from e1, show yp a = _ from e2]; rfl
 | some T =>
  rw [hT] at e1 e2
  have hlen := rl_len _ _ _ hT
  have e3 : yA.l9 a rounds 0 0 = some (T.length : Int) := by
   have := rl_count hl rounds 0 0 T (by omega) hT
   rw [qt] at this; exact this
  have e1' : xw a = some (T.map (fun c : Nat => (c : Int)), true) := e1
  have e2' : yp a = some true := e2
  rw [yM, yo, yA, e1', e2', qf, qf]
  have el : (T.map (fun c : Nat => (c : Int))).length = T.length := qV _
  dsimp only
  rw [if_neg (show ¬ (!true) = true by decide), e3, qf, key_eq]
  unfold bnd
  dsimp only
  simp only [el]
  by_cases hn : T.length < 1 ∨ 20 < T.length
  · have hc : (decide ((T.length : Int) < 1) || decide (20 < (T.length : Int))) = true := by simp only [qH, decide_eq_true_eq]; omega
    rw [qX, uK, hc, if_pos rfl, qf, if_pos rfl, if_pos rfl, if_pos rfl]
  have h1 : 0 < T.length := by omega
  have h1' : 0 < (T.map (fun c : Nat => (c : Int))).length := by rw [qV]; exact h1
  have hc : (decide ((T.length : Int) < 1) || decide (20 < (T.length : Int))) = false := by
   rw [Bool.eq_false_iff]
   simp only [ne_eq, qH, decide_eq_true_eq]; omega
  have ei := YR h1'
  have e14 := ref_l14 (v := true) (L := T) (by omega) rounds 1 (by omega) (by omega)
  rw [List.getElem_map] at ei
  rw [qX, uK, hc, if_neg uJ, show Zj (T.map (fun c : Nat => (c : Int))) 0 = _ from ei, qf, qf, if_neg uJ, show yM.l14 (T.map (fun c : Nat => (c : Int)), true) rounds 1 = _ from e14]
  cases T with
  | nil => exact absurd h1 (by decide)
  | cons c T =>
   obtain ⟨k, hk⟩ : ∃ k, rounds = k + 1 := ⟨rounds - 1, by omega⟩
   have hT' := hT
   rw [hk, rl] at hT'
   split at hT'
   · rename_i hpl
     split at hT'
     · cases hT'
     obtain ⟨T', hT2, hc⟩ := Option.map_eq_some_iff.1 hT'
     injection hc with hc1 hc2
     subst hc2
     have hm := ZK a 0
     have ih := rl_name k _ T' (by omega) hT2
     rw [hk, yo.l11, if_pos hpl, hc1, letter_eq, digit_eq, ih, List.drop_succ_cons, qJ]
     unfold bnd
     dsimp only
     rw [List.getElem_cons_zero]
     cases yX (c : Int) <;> cases yQ a <;> rfl
   cases hT'
end
section
set_option maxRecDepth 4000
open AM
def Rm {K : Type} [DecidableEq K] (m : List (K × Bool)) (l : List K) : Prop := ∀ x, (X0 m x).getD false = true ↔ x ∈ l
theorem Rm.val {K : Type} [DecidableEq K] {m : List (K × Bool)} {l : List K} (h : Rm m l) (x : K) [inst : Decidable (x ∈ l)] : (X0 m x).getD false = decide (x ∈ l) := by
 rw [Bool.eq_iff_iff, h x, decide_eq_true_eq]
theorem getM_setM {K V : Type} [DecidableEq K] (k x : K) (v : V) : ∀ (l : List (K × V)), X0 (vaa l k v) x = if x = k then some v else X0 l x
 | [] => by simp only [vaa, X0]
 | (a, w) :: l => by
  rw [vaa]
  split
  · rename_i h
    subst h
    simp only [X0]
    split <;> rfl
  rename_i h
  simp only [X0, getM_setM k x v l]
  split
  · rename_i h2
    subst h2
    rw [if_neg (fun hc => h hc.symm)]
  rfl
theorem Rm_nil {K : Type} [DecidableEq K] : Rm ([] : List (K × Bool)) [] := fun x => by simp [X0]
theorem vaj {K : Type} [DecidableEq K] {m : List (K × Bool)} {l : List K} (h : Rm m l) (k : K) : Rm (vaa m k true) (l ++ [k]) := fun x => by
 rw [getM_setM]
 by_cases hx : x = k
 · rw [if_pos hx]; simp [hx]
 rw [if_neg hx, h x]; simp [hx]
theorem fresh_l (x : List UInt8) : ∀ (l : List (List UInt8)) (i : Int), yd.l4 x l i = if x ∈ l then some false else yM x
 | [], i => by rw [yd.l4, if_neg (List.not_mem_nil)]; cases yM x <;> rfl
 | y :: l, i => by
  rw [yd.l4, fresh_l]
  by_cases h : y = x
  · rw [if_pos h, if_pos (by rw [h]; exact qo ..)]
  rw [if_neg h]
  by_cases h2 : x ∈ l
  · rw [if_pos h2, if_pos (qp _ h2)]
  rw [if_neg h2, if_neg (fun hc => by rcases qD.1 hc with e | e; exact h e.symm; exact h2 e)]
theorem Xr {m : List (List UInt8 × Bool)} {l : List (List UInt8)} {x : List UInt8} (h : Rm m l) (hx : x.length ≤ 3000) : ∃ b, yd x l = some b ∧ z7 m x = some (b, if b = true then vaa m x true else m) := by
 have hn : yo x = some (nameV x) := nameV_eq (by unfold nmOk; omega)
 rw [yd, fresh_l, z7, hn, qf, name_eq (by omega), hn, h.val x]
 by_cases hm : x ∈ l
 · refine ⟨false, by rw [if_pos hm], ?_⟩
   rw [decide_eq_true hm, qW, if_pos rfl, if_neg uJ]
 refine ⟨nameV x, by rw [if_neg hm], ?_⟩
 rw [decide_eq_false hm, ub]
 cases nameV x <;> rfl
theorem XS (t : Int) : ∀ (l : List Int) (i : Int), ye.l4 t l i = decide (t ∈ l)
 | [], i => rfl
 | y :: l, i => by
  rw [ye.l4, XS]
  by_cases h : y = t
  · rw [if_pos h, decide_eq_true (by rw [h]; exact qo ..)]
  rw [if_neg h]
  exact decide_eq_decide.2 ⟨fun hc => qp _ hc, fun hc => by rcases qD.1 hc with e | e; exact absurd e.symm h; exact e⟩
theorem field_l (t : Int) : ∀ (l : List GField) (i : Int), (y5.l4 t l i).2 = decide (t ∈ l.map GField.fTag)
 | [], i => rfl
 | y :: l, i => by
  rw [y5.l4, qM]
  by_cases h : y.fTag = t
  · rw [if_pos h, decide_eq_true (by rw [h]; exact qo ..)]
  rw [if_neg h, field_l]
  exact decide_eq_decide.2 ⟨fun hc => qp _ hc, fun hc => by rcases qD.1 hc with e | e; exact absurd e.symm h; exact e⟩
theorem cut_app {α : Type} (A B : List α) : YF (A ++ B) 0 (A.length : Int) = A := by
 unfold YF
 rw [qN, show qB 0 = 0 from rfl, qJ, uL, List.take_left' rfl]
theorem enum_l (n : List UInt8) : ∀ (l : List GEnumeration) (i j : Int), xm.l4 n l i = xb.l4 n l j
 | [], _, _ => rfl
 | y :: l, i, j => by rw [xm.l4, xb.l4, enum_l n l (i + 1) (j + 1)]
theorem va6 (n : List UInt8) : ∀ (l : List GMessage) (i j : Int), yh.l4 n l i = zP.l4 n l j
 | [], _, _ => rfl
 | y :: l, i, j => by rw [yh.l4, zP.l4, va6 n l (i + 1) (j + 1)]
theorem kind_of (s : GSchema) (y : GType) : yE s y = (if y.fKind = 6 then (xb s y.fName).2 else if y.fKind = 7 then (zP s y.fName).2 else (decide (1 ≤ y.fKind) && decide (y.fName = [])) && decide (y.fKind < 6)) := by
 have e6 : xm s y.fName = xb s y.fName := enum_l _ _ _ _
 have e7 : yh s y.fName = zP s y.fName := va6 _ _ _ _
 have small : 1 ≤ y.fKind → y.fKind ≤ 5 → yE.j3 s y true = (if y.fKind = 6 then (xb s y.fName).2 else if y.fKind = 7 then (zP s y.fName).2 else (decide (1 ≤ y.fKind) && decide (y.fName = [])) && decide (y.fKind < 6)) := by
  intro h1 h2
  rw [yE.j3, if_pos rfl, if_neg (by omega), if_neg (by omega), decide_eq_true h1, decide_eq_true (show y.fKind < 6 by omega), uE, q2]
 unfold yE
 by_cases k1 : y.fKind = 1
 · rw [if_pos k1, decide_eq_true k1]; exact small (by omega) (by omega)
 rw [if_neg k1]
 by_cases k2 : y.fKind = 2
 · rw [if_pos k2, decide_eq_true k2]; exact small (by omega) (by omega)
 rw [if_neg k2]
 by_cases k3 : y.fKind = 3
 · rw [if_pos k3, decide_eq_true k3]; exact small (by omega) (by omega)
 rw [if_neg k3]
 by_cases k4 : y.fKind = 4
 · rw [if_pos k4, decide_eq_true k4]; exact small (by omega) (by omega)
 rw [if_neg k4]
 by_cases k5 : y.fKind = 5
 · rw [decide_eq_true k5]; exact small (by omega) (by omega)
 rw [decide_eq_false k5, yE.j3, if_neg uJ, bnd, bnd, e6, e7]
 split
 · rfl
 split
 · rfl
 rename_i h6 h7
 rw [Bool.eq_iff_iff]
 simp only [ql, decide_eq_true_eq, qT, false_iff]
 omega
theorem fieldOk_eq (s : GSchema) (f : GField) : xC s f = (decide (1 ≤ f.fLabel) && decide (f.fLabel ≤ 3) && yE s f.fType) := by
 rw [kind_of]
 unfold xC bnd
 split
 · rfl
 split
 · rfl
 simp only [Bool.and_assoc]
theorem msg_l21_eq {s : GSchema} {m : GMessage} {r2 : Bool × List (List UInt8 × Bool)} (hn : ∀ f ∈ m.fFields, f.fName.length ≤ 3000) (hl : m.fFields.length * 56 ≤ 140737488351232) : ∀ (B A : List GField) (i : Int) (tm : List (Int × Bool)) (nm : List (List UInt8 × Bool)), m.fFields = A ++ B → Rm tm (m.fReserved ++ A.map GField.fTag) → Rm nm (A.map GField.fName) →
 zO.l21 s r2 B i tm nm = (zC.l17 s m B (A.length : Int) (A.map GField.fName)).map fun v => (v, r2.2)
 | [], A, i, tm, nm, _, _, _ => rfl
 | f :: B, A, i, tm, nm, h, ht, hnm => by
  have hlen : m.fFields.length = A.length + (B.length + 1) := by rw [h, qi, qk]
  obtain ⟨b, e1, e2⟩ := Xr hnm (hn f (by rw [h]; exact uq _ (qo ..)))
  rw [zO.l21, zC.l17, e1, e2, qf, qf]
  cases b with
  | false => rfl
  | true =>
   dsimp only
   rw [if_neg (show ¬ (!true) = true by decide), if_neg (show ¬ (!true) = true by decide), if_pos rfl, xG (by rw [qV]; omega), qf, YD ⟨Int.le_refl _, by omega, by omega⟩, qf]
   have ec : YF m.fFields 0 (A.length : Int) = A := by rw [h]; exact cut_app A _
   have e3 : (y5 (⟨[], A, ([] : List Int)⟩ : GMessage) f.fTag).2 = decide (f.fTag ∈ A.map GField.fTag) := field_l _ _ _
   have e4 : ye m f.fTag = decide (f.fTag ∈ m.fReserved) := XS _ _ _
   have e5 : wr f.fTag = (decide (1 ≤ f.fTag) && decide (f.fTag ≤ 500)) := rfl
   unfold bnd
   dsimp only
   rw [ec, e3, e4, e5, ht.val f.fTag]
   have e6 : (if (decide (f.fTag ∈ A.map GField.fTag) || decide (f.fTag < 1) || decide (500 < f.fTag)) = true then true else decide (f.fTag ∈ m.fReserved)) = (!(decide (1 ≤ f.fTag) && decide (f.fTag ≤ 500)) || decide (f.fTag ∈ m.fReserved ++ A.map GField.fTag)) := by
    rw [Bool.eq_iff_iff]
    by_cases a1 : f.fTag ∈ A.map GField.fTag
    · simp [a1]
    by_cases a2 : f.fTag ∈ m.fReserved
    · simp [a2]
    rw [decide_eq_false a1, decide_eq_false a2, decide_eq_false (show ¬ f.fTag ∈ m.fReserved ++ A.map GField.fTag from fun hc => by rcases uC.1 hc with e | e; exact a2 e; exact a1 e)]
    simp only [uK, ub, qH, uw, Bool.and_eq_false_iff, decide_eq_true_eq, decide_eq_false_iff_not]
    split <;> simp <;> omega
   rw [e6]
   generalize hc : (!(decide (1 ≤ f.fTag) && decide (f.fTag ≤ 500)) || decide (f.fTag ∈ m.fReserved ++ A.map GField.fTag)) = c
   cases c with
   | true => rfl
   | false =>
    rw [if_neg uJ, if_neg uJ]
    have e7 : (if (decide (f.fLabel < 1) || decide (3 < f.fLabel)) = true then true else !yE s f.fType) = !xC s f := by
     rw [fieldOk_eq, Bool.eq_iff_iff]
     cases yE s f.fType <;> simp only [qH, decide_eq_true_eq, qI, qX, ud, q2, uw, Bool.and_eq_false_iff, decide_eq_false_iff_not] <;> split <;> simp <;> omega
    rw [e7]
    cases xC s f with
    | false => rfl
    | true =>
     rw [if_neg (show ¬ (!true) = true by decide), if_neg (show ¬ (!true) = true by decide)]
     have := msg_l21_eq (s := s) (r2 := r2) hn hl B (A ++ [f]) (i + 1) (vaa tm f.fTag true) (vaa nm f.fName true) (by rw [h, qr]; rfl) (by rw [qR, ← qr]; exact vaj ht f.fTag) (by rw [qR]; exact vaj hnm f.fName)
     rw [this, qi, qG, qR, show (A.length : Int) + 1 = ((A.length + 1 : Nat) : Int) by omega]; rfl
theorem msg_l12_eq {s : GSchema} {m : GMessage} {r2 : Bool × List (List UInt8 × Bool)} (hn : ∀ f ∈ m.fFields, f.fName.length ≤ 3000) (hl : m.fFields.length * 56 ≤ 140737488351232) : ∀ (B A : List Int) (i : Int) (tm : List (Int × Bool)), m.fReserved = A ++ B → Rm tm A →
 zO.l12 s m r2 B i tm = (zC.l8 s m B (A.length : Int)).map fun v => (v, r2.2)
 | [], A, i, tm, h, ht => by
  rw [qx] at h
  rw [zO.l12, zC.l8]
  exact msg_l21_eq hn hl m.fFields [] 0 tm [] rfl (by rw [h, qy, qx]; exact ht) Rm_nil
 | n :: B, A, i, tm, h, ht => by
  have hlen : m.fReserved.length = A.length + (B.length + 1) := by rw [h, qi, qk]
  have ih := msg_l12_eq (s := s) (r2 := r2) hn hl B (A ++ [n]) (i + 1) (vaa tm n true) (by rw [h, qr]; rfl) (vaj ht n)
  have e5 : wr n = (decide (1 ≤ n) && decide (n ≤ 500)) := rfl
  have ec : YF m.fReserved 0 (A.length : Int) = A := by rw [h]; exact cut_app A _
  have e4 : ye (⟨[], ([] : List GField), A⟩ : GMessage) n = decide (n ∈ A) := XS _ _ _
  rw [zO.l12, zC.l8]
  unfold bnd
  dsimp only
  rw [e5, ht.val n]
  by_cases h1 : n < 1
  · rw [if_pos h1, decide_eq_false (show ¬ 1 ≤ n by omega)]; rfl
  rw [if_neg h1]
  by_cases h2 : 500 < n
  · rw [if_pos h2, decide_eq_false (show ¬ n ≤ 500 by omega), ud]; rfl
  rw [if_neg h2, YD ⟨Int.le_refl _, by omega, by omega⟩, qf, ec, e4, decide_eq_true (show 1 ≤ n by omega), decide_eq_true (show n ≤ 500 by omega)]
  cases decide (n ∈ A) with
  | true => rfl
  | false =>
   rw [zC.j43, if_neg uJ]
   show zO.l12 s m r2 B (i + 1) (vaa tm n true) = _
   rw [ih, qi, qG, show (A.length : Int) + 1 = ((A.length + 1 : Nat) : Int) by omega]
theorem msg_eq {s : GSchema} {m : GMessage} {a : List (List UInt8 × Bool)} {l : List (List UInt8)} (ha : Rm a l) (hm : m.fName.length ≤ 3000) (hn : ∀ f ∈ m.fFields, f.fName.length ≤ 3000) (hl : m.fFields.length * 56 ≤ 140737488351232) :
 (yd m.fName l = some false ∧ zO s a m = some (6, a)) ∨ (yd m.fName l = some true ∧ zO s a m = (zC s m).map fun v => (v, vaa a m.fName true)) := by
 obtain ⟨b, e1, e2⟩ := Xr ha hm
 rw [zO, e2, qf]
 cases b with
 | false => exact Or.inl ⟨e1, rfl⟩
 | true =>
  refine Or.inr ⟨e1, ?_⟩
  dsimp only
  rw [if_neg (show ¬ (!true) = true by decide), if_pos rfl, zC]
  split
  · rfl
  exact msg_l12_eq hn hl m.fReserved [] 0 [] rfl Rm_nil
end
section
set_option maxRecDepth 4000
open AM
theorem enum_l38 {e : GEnumeration} {v : GNamed} {A B : List GNamed} {l15 : List (List UInt8)} {rec21 : Int → List (List UInt8) → Option Int} (h : e.fValues = A ++ v :: B) (hA : A.length ≤ 1000000) : ∀ (k j : Nat), A.length < k + j → j ≤ A.length → zU.l38 e (A.length : Int) l15 rec21 v k (j : Int) = if v.fN ∈ (A.drop j).map GNamed.fN then some 11 else rec21 ((A.length : Int) + 1) (l15 ++ [v.fName])
 | 0, j, h1, h2 => by omega
 | k + 1, j, h1, h2 => by
  rw [zU.l38]
  by_cases hj : j < A.length
  · have ei : Zj e.fValues (j : Int) = some (A[j]'hj) := by
     rw [h, YR (show j < (A ++ v :: B).length by rw [qi]; omega), List.getElem_append_left hj]
    rw [if_pos (by omega), ei, qf, List.drop_eq_getElem_cons hj, qM]
    by_cases hv : (A[j]'hj).fN = v.fN
    · rw [if_pos hv, if_pos (by rw [hv]; exact qo ..)]
    rw [if_neg hv, yF (by omega) (by omega), show (j : Int) + 1 = ((j + 1 : Nat) : Int) by omega, enum_l38 h hA k (j + 1) (by omega) (by omega)]
    by_cases hm : v.fN ∈ (A.drop (j + 1)).map GNamed.fN
    · rw [if_pos hm, if_pos (qp _ hm)]
    rw [if_neg hm, if_neg (fun hc => by rcases qD.1 hc with e1 | e1; exact hv e1.symm; exact hm e1)]
  rw [if_neg (by omega), List.drop_of_length_le (by omega), if_neg (by simp)]
theorem vbg {e : GEnumeration} {r2 : Bool × List (List UInt8 × Bool)} (hn : ∀ v ∈ e.fValues, v.fName.length ≤ 3000) (hl : e.fValues.length ≤ 1000) : ∀ (B A : List GNamed) (i : Int) (nm : List (List UInt8 × Bool)) (km : List (Int × Bool)), e.fValues = A ++ B → Rm nm (A.map GNamed.fName) → Rm km (A.map GNamed.fN) →
 yf.l23 r2 B i nm km = (zU.l21 e B (A.length : Int) (A.map GNamed.fName)).map fun v => (v, r2.2)
 | [], A, i, nm, km, _, _, _ => rfl
 | v :: B, A, i, nm, km, h, hnm, hkm => by
  have hlen : e.fValues.length = A.length + (B.length + 1) := by rw [h, qi, qk]
  have hr := yZ
  obtain ⟨b, e1, e2⟩ := Xr hnm (hn v (by rw [h]; exact uq _ (qo ..)))
  rw [yf.l23, zU.l21, e1, e2, qf, qf]
  cases b with
  | false => rfl
  | true =>
   dsimp only
   rw [if_neg (show ¬ (!true) = true by decide), if_neg (show ¬ (!true) = true by decide), if_pos rfl, xG (by rw [qV]; omega), qf, hkm.val v.fN]
   by_cases hb : (decide (v.fN < 0) || decide (2147483647 < v.fN)) = true
   · rw [hb, if_pos rfl, Bool.true_or, if_pos rfl]; rfl
   rw [Bool.eq_false_iff.2 hb, if_neg uJ, uK]
   have e38 := enum_l38 (l15 := A.map GNamed.fName) (rec21 := zU.l21 e B) h (by omega) rounds 0 (by omega) (by omega)
   rw [show zU.l38 e (A.length : Int) (A.map GNamed.fName) (zU.l21 e B) v rounds 0 = _ from e38, qJ]
   by_cases hm : v.fN ∈ A.map GNamed.fN
   · rw [decide_eq_true hm, if_pos rfl, if_pos hm]; rfl
   rw [decide_eq_false hm, if_neg uJ, if_neg hm]
   have := vbg (r2 := r2) hn hl B (A ++ [v]) (i + 1) (vaa nm v.fName true) (vaa km v.fN true) (by rw [h, qr]; rfl) (by rw [qR]; exact vaj hnm v.fName) (by rw [qR]; exact vaj hkm v.fN)
   rw [this, qi, qG, qR, show (A.length : Int) + 1 = ((A.length + 1 : Nat) : Int) by omega]; rfl
theorem vbh {e : GEnumeration} {r2 : Bool × List (List UInt8 × Bool)} (hn : ∀ v ∈ e.fValues, v.fName.length ≤ 3000) (hl : e.fValues.length ≤ 1000) : ∀ (B : List GNamed) (i j : Int) (z : Bool),
 yf.l12 e r2 B i z = (zU.l10 e B j z).map fun v => (v, r2.2)
 | [], i, j, z => by
  rw [yf.l12, zU.l10]
  cases z with
  | false => rfl
  | true => exact vbg hn hl e.fValues [] 0 [] [] rfl Rm_nil Rm_nil
 | v :: B, i, j, z => by rw [yf.l12, zU.l10]; exact vbh hn hl B _ _ _
theorem enum_eq {e : GEnumeration} {a : List (List UInt8 × Bool)} {l : List (List UInt8)} (ha : Rm a l) (hm : e.fName.length ≤ 3000) (hn : ∀ v ∈ e.fValues, v.fName.length ≤ 3000) :
 (yd e.fName l = some false ∧ yf a e = some (6, a)) ∨ (yd e.fName l = some true ∧ yf a e = (zU e).map fun v => (v, vaa a e.fName true)) := by
 obtain ⟨b, e1, e2⟩ := Xr ha hm
 rw [yf, e2, qf]
 cases b with
 | false => exact Or.inl ⟨e1, rfl⟩
 | true =>
  refine Or.inr ⟨e1, ?_⟩
  dsimp only
  rw [if_neg (show ¬ (!true) = true by decide), if_pos rfl, zU]
  split
  · rfl
  exact vbh hn (by omega) e.fValues 0 0 false
theorem meth_eq {s : GSchema} : ∀ (B : List GMethod) (i j : Int) (nm : List (List UInt8 × Bool)) (l : List (List UInt8)), (∀ x ∈ B, x.fName.length ≤ 3000) → l.length + B.length ≤ 1000000 → Rm nm l → zx.l29 s B i nm = yL.l22 s B j l
 | [], _, _, _, _, _, _, _ => rfl
 | x :: B, i, j, nm, l, hn, hl, hr => by
  rw [qk] at hl
  obtain ⟨b, e1, e2⟩ := Xr hr (hn x (qo ..))
  have e7 : ∀ n, yh s n = zP s n := fun n => va6 _ _ _ _
  rw [zx.l29, yL.l22, e1, e7, e7, qf]
  unfold bnd
  dsimp only
  rw [e2, qf]
  cases b with
  | false => rfl
  | true =>
   dsimp only
   rw [if_neg (show ¬ (!true) = true by decide), if_neg (show ¬ (!true) = true by decide), if_pos rfl, xG (by omega), qf]
   split
   · rfl
   exact meth_eq B _ _ _ _ (fun y hy => hn y (qp _ hy)) (by rw [qi, qG]; omega) (vaj hr x.fName)
def nm3 (s : GSchema) : Prop := s.fName.length ≤ 3000 ∧ (∀ m ∈ s.fMessages, m.fName.length ≤ 3000 ∧ (∀ f ∈ m.fFields, f.fName.length ≤ 3000) ∧ m.fFields.length * 56 ≤ 140737488351232) ∧ (∀ e ∈ s.fEnums, e.fName.length ≤ 3000 ∧ ∀ v ∈ e.fValues, v.fName.length ≤ 3000) ∧ ∀ x ∈ s.fMethods, x.fName.length ≤ 3000
theorem parts_l17 {s : GSchema} (hs : nm3 s) (hM : s.fMethods.length ≤ 6) : ∀ (B : List GEnumeration) (i j : Int) (a : List (List UInt8 × Bool)) (l : List (List UInt8)), (∀ e ∈ B, e ∈ s.fEnums) → l.length + B.length ≤ 1000000 → Rm a l → zx.l22 s B i a = (ym.l17 B j l).bind fun r => if r = 0 then yL.l22 s s.fMethods 0 [] else some r
 | [], i, j, a, l, _, _, _ => by
  rw [zx.l22, ym.l17, qf, if_pos rfl]
  exact meth_eq _ _ _ _ _ hs.2.2.2 (by rw [qn]; omega) Rm_nil
 | e :: B, i, j, a, l, he, hl, hr => by
  rw [qk] at hl
  have hme := hs.2.2.1 e (he e (qo ..))
  rw [zx.l22, ym.l17]
  rcases enum_eq hr hme.1 hme.2 with ⟨e1, e2⟩ | ⟨e1, e2⟩
  · rw [e1, e2]; rfl
  rw [e1, e2, qf, if_neg (show ¬ (!true) = true by decide), xG (by omega), qf]
  cases zU e with
  | none => rfl
  | some v =>
   rw [ux, qf, qf]
   dsimp only
   by_cases h0 : v = 0
   · rw [if_pos h0, if_pos h0]
     exact parts_l17 hs hM B _ _ _ _ (fun y hy => he y (qp _ hy)) (by rw [qi, qG]; omega) (vaj hr e.fName)
   rw [if_neg h0, if_neg h0, qf, if_neg h0]
theorem parts_l8 {s : GSchema} (hs : nm3 s) (hM : s.fMethods.length ≤ 6) (hE : s.fEnums.length ≤ 6) : ∀ (B : List GMessage) (i j : Int) (a : List (List UInt8 × Bool)) (l : List (List UInt8)), (∀ e ∈ B, e ∈ s.fMessages) → l.length + B.length ≤ 1000 → Rm a l → zx.l15 s B i a = (ym.l8 s B j l).bind fun r => if r = 0 then yL.l22 s s.fMethods 0 [] else some r
 | [], i, j, a, l, _, hl, hr => by
  rw [zx.l15, ym.l8]
  exact parts_l17 hs hM _ _ _ _ _ (fun _ h => h) (by rw [qn] at hl; omega) hr
 | m :: B, i, j, a, l, he, hl, hr => by
  rw [qk] at hl
  have hme := hs.2.1 m (he m (qo ..))
  rw [zx.l15, ym.l8]
  rcases msg_eq (s := s) hr hme.1 hme.2.1 hme.2.2 with ⟨e1, e2⟩ | ⟨e1, e2⟩
  · rw [e1, e2]; rfl
  rw [e1, e2, qf, if_neg (show ¬ (!true) = true by decide), xG (by omega), qf]
  cases zC s m with
  | none => rfl
  | some v =>
   rw [ux, qf, qf]
   dsimp only
   by_cases h0 : v = 0
   · rw [if_pos h0, if_pos h0]
     exact parts_l8 hs hM hE B _ _ _ _ (fun y hy => he y (qp _ hy)) (by rw [qi, qG]; omega) (vaj hr m.fName)
   rw [if_neg h0, if_neg h0, qf, if_neg h0]
theorem check07_eq {s : GSchema} (hs : nm3 s) : yL s = zx s := by
 rw [yL, zx, name_eq (by have := hs.1; omega)]
 cases yo s.fName with
 | none => rfl
 | some b =>
  rw [qf, qf]
  cases b with
  | false => rfl
  | true =>
   rw [if_neg (show ¬ (!true) = true by decide), if_neg (show ¬ (!true) = true by decide)]
   by_cases h0 : (s.fMessages.length : Int) = 0
   · rw [if_pos h0, if_pos h0]
   rw [if_neg h0, if_neg h0]
   by_cases hc : (((decide (10 < (qc s.fMessages : Int))) || (decide (6 < (qc s.fEnums : Int)))) || (decide (6 < (qc s.fMethods : Int)))) = true
   · rw [if_pos hc, if_pos hc]
   rw [if_neg hc, if_neg hc]
   simp only [qH, decide_eq_true_eq, not_or] at hc
   rw [parts_l8 hs (by omega) (by omega) s.fMessages 0 0 [] [] (fun _ h => h) (by rw [qn]; omega) Rm_nil]; rfl
theorem fewI_l25 {m : GMessage} {x2 x3 : Int} {rec6 : Int → Int → Option Bool} : ∀ (l : List GField) (i : Int), zD.l25 x2 x3 rec6 m l i = some true → (∀ f ∈ l, f.fName.length ≤ 200) ∧ rec6 (IntKind.i64.wrap (x2 + (qc m.fName : Int))) (IntKind.i64.wrap (x3 + 1)) = some true
 | [], _, h => ⟨(fun _ h => by cases h), h⟩
 | f :: l, i, h => by
  rw [zD.l25] at h
  split at h
  · cases h
  rename_i hc
  simp only [qH, decide_eq_true_eq, not_or] at hc
  obtain ⟨h1, h2⟩ := fewI_l25 l _ h
  refine ⟨fun g hg => ?_, h2⟩
  rcases qD.1 hg with rfl | hg
  · omega
  exact h1 g hg
theorem fewI_l60 {x : Int} {rec43 : Int → Option Bool} : ∀ (l : List GNamed) (i : Int), zD.l60 x rec43 l i = some true → (∀ f ∈ l, f.fName.length ≤ 200) ∧ rec43 (IntKind.i64.wrap (x + 1)) = some true
 | [], _, h => ⟨(fun _ h => by cases h), h⟩
 | f :: l, i, h => by
  rw [zD.l60] at h
  split at h
  · cases h
  obtain ⟨h1, h2⟩ := fewI_l60 l _ h
  refine ⟨fun g hg => ?_, h2⟩
  rcases qD.1 hg with rfl | hg
  · omega
  exact h1 g hg
theorem fewI_l78 {s : GSchema} {n : Int} : ∀ (k j : Nat), j ≤ 20 → zD.l78 s n k (j : Int) = some true → n < 3000 ∧ s.fMessages.length ≤ 14 ∧ s.fEnums.length ≤ 10 ∧ s.fMethods.length ≤ 10 ∧ ∀ x ∈ s.fMethods.drop j, x.fName.length ≤ 200
 | 0, j, _, h => by cases h
 | k + 1, j, hj, h => by
  rw [zD.l78] at h
  split at h
  · rename_i hc
    simp only [ql, decide_eq_true_eq] at hc
    have hj2 : j < s.fMethods.length := by omega
    rw [YR hj2, qf] at h
    split at h
    · cases h
    rename_i hb
    simp only [qH, decide_eq_true_eq, not_or] at hb
    rw [yF (by omega) (by omega), show (j : Int) + 1 = ((j + 1 : Nat) : Int) by omega] at h
    obtain ⟨h1, h2, h3, h4, h5⟩ := fewI_l78 k (j + 1) (by omega) h
    refine ⟨h1, h2, h3, h4, fun x hx => ?_⟩
    rw [List.drop_eq_getElem_cons hj2] at hx
    rcases qD.1 hx with rfl | hx
    · omega
    exact h5 x hx
  rename_i hc
  simp only [ql, decide_eq_true_eq, not_and] at hc
  have h := Option.some.inj h
  simp only [ql, decide_eq_true_eq] at h
  refine ⟨h.1.1.1, by omega, by omega, by omega, fun x hx => ?_⟩
  rw [List.drop_of_length_le (by omega)] at hx; cases hx
theorem fewI_l43 {s : GSchema} {n : Int} : ∀ (k j : Nat), j ≤ 20 → zD.l43 s n k (j : Int) = some true → n < 3000 ∧ s.fMessages.length ≤ 14 ∧ s.fEnums.length ≤ 10 ∧ (∀ x ∈ s.fMethods, x.fName.length ≤ 200) ∧ ∀ x ∈ s.fEnums.drop j, x.fName.length ≤ 200 ∧ ∀ v ∈ x.fValues, v.fName.length ≤ 200
 | 0, j, _, h => by cases h
 | k + 1, j, hj, h => by
  rw [zD.l43] at h
  split at h
  · rename_i hc
    simp only [ql, decide_eq_true_eq] at hc
    have hj2 : j < s.fEnums.length := by omega
    rw [YR hj2, qf] at h
    split at h
    · cases h
    rename_i hb
    simp only [qH, decide_eq_true_eq, not_or] at hb
    obtain ⟨hv, h⟩ := fewI_l60 _ _ h
    rw [yF (by omega) (by omega), show (j : Int) + 1 = ((j + 1 : Nat) : Int) by omega] at h
    obtain ⟨h1, h2, h3, h4, h5⟩ := fewI_l43 k (j + 1) (by omega) h
    refine ⟨h1, h2, h3, h4, fun x hx => ?_⟩
    rw [List.drop_eq_getElem_cons hj2] at hx
    rcases qD.1 hx with rfl | hx
    · exact ⟨by omega, hv⟩
    exact h5 x hx
  rename_i hc
  simp only [ql, decide_eq_true_eq, not_and] at hc
  obtain ⟨h1, h2, h3, h4, h5⟩ := fewI_l78 rounds 0 (by omega) h
  rw [qJ] at h5
  refine ⟨h1, h2, h3, h5, fun x hx => ?_⟩
  rw [List.drop_of_length_le (by omega)] at hx; cases hx
theorem fewI_l6 {s : GSchema} (hs : nmS s) : ∀ (k j : Nat) (n : Int), j ≤ 20 → 0 ≤ n → n + (20 - j) * 140737488351232 ≤ 9000000000000000 → zD.l6 s k n (j : Int) = some true → n < 3000 ∧ s.fMessages.length ≤ 14 ∧ (∀ x ∈ s.fMethods, x.fName.length ≤ 200) ∧ (∀ x ∈ s.fEnums, x.fName.length ≤ 200 ∧ ∀ v ∈ x.fValues, v.fName.length ≤ 200) ∧ ∀ x ∈ s.fMessages.drop j, x.fName.length ≤ 3000 ∧ x.fFields.length ≤ 20 ∧ ∀ v ∈ x.fFields, v.fName.length ≤ 200
 | 0, j, n, _, _, _, h => by cases h
 | k + 1, j, n, hj, h0, hn, h => by
  rw [zD.l6] at h
  split at h
  · rename_i hc
    simp only [ql, decide_eq_true_eq] at hc
    have hj2 : j < s.fMessages.length := by omega
    have hm := (hs.2.1 _ (List.getElem_mem hj2)).1
    unfold nmOk at hm
    rw [YR hj2, qf] at h
    split at h
    · cases h
    rename_i hb
    simp only [qH, decide_eq_true_eq, not_or] at hb
    obtain ⟨hv, h⟩ := fewI_l25 _ _ h
    rw [yF (x := (j : Int) + 1) (by omega) (by omega), show (j : Int) + 1 = ((j + 1 : Nat) : Int) by omega, yF (by omega) (by omega)] at h
    obtain ⟨h1, h2, h3, h4, h5⟩ := fewI_l6 hs k (j + 1) _ (by omega) (by omega) (by omega) h
    refine ⟨by omega, h2, h3, h4, fun x hx => ?_⟩
    rw [List.drop_eq_getElem_cons hj2] at hx
    rcases qD.1 hx with rfl | hx
    · exact ⟨by omega, by omega, hv⟩
    exact h5 x hx
  rename_i hc
  simp only [ql, decide_eq_true_eq, not_and] at hc
  obtain ⟨h1, h2, h3, h4, h5⟩ := fewI_l43 rounds 0 (by omega) h
  rw [qJ] at h5
  refine ⟨h1, h2, h4, h5, fun x hx => ?_⟩
  rw [List.drop_of_length_le (by omega)] at hx; cases hx
theorem few_names {s : GSchema} (hs : nmS s) (h : zD s = some true) : nm3 s := by
 have h0 := hs.1
 unfold nmOk at h0
 obtain ⟨h1, h2, h3, h4, h5⟩ := fewI_l6 hs rounds 0 (s.fName.length : Int) (by omega) (by omega) (by omega) h
 rw [qJ] at h5
 exact ⟨by omega, fun m hm => ⟨(h5 m hm).1, fun f hf => uu ((h5 m hm).2.2 f hf) (by decide), by have := (h5 m hm).2.1; omega⟩, fun e he => ⟨uu (h4 e he).1 (by decide), fun v hv => uu ((h4 e he).2 v hv) (by decide)⟩, fun x hx => uu (h3 x hx) (by decide)⟩
end
section
set_option maxRecDepth 4000
open AM
theorem X8 : xg = some true := by decide +kernel
theorem dec_t {s : GSchema} {n b : List UInt8} (hs : nmS s) : ∃ r, yH s n b = some r ∧ (r.2 = 0 → r = YX s 10 (msgOf s n) b) := by
 by_cases hc : chkV s = 0
 · have hck : zx s = some 0 := by rw [X5 hs, hc]
   by_cases hm : (zP s n).2 = true
   · exact ⟨_, decode_eq hck hm, fun _ => rfl⟩
   refine ⟨(Zv, 14), ?_, fun h => absurd h (by decide)⟩
   rw [yH, hck, qf, if_pos rfl, bnd, if_pos (by simpa using hm)]; rfl
 refine ⟨(Zv, 1), ?_, fun h => absurd h (by decide)⟩
 rw [yH, X5 hs, qf, if_neg hc]; rfl
def XN : GPacket := ⟨0, 0, 0, 0, 0, [], 0, []⟩
def YB (p : GPacket) (c : List UInt8) : GPacket := ⟨p.fKind, p.fFrom, p.fTo, p.fID, p.fVersion, p.fMethod, p.fErr, c⟩
theorem j8_eq {s : GSchema} {p : GPacket} {n : List UInt8} (hs : nmS s) (hb : p.fBody.length ≤ 5000) : zJ.j8 s p n = some (XN, false) ∨
 ∃ c, zJ.j8 s p n = some (YB p c, true) ∧ c.length ≤ p.fBody.length ∧ (∀ q : GPacket, q.fBody = c → zJ.j8 s q n = some (YB q c, true)) := by
 obtain ⟨r, hr, h0⟩ := dec_t (b := p.fBody) (n := n) hs
 by_cases h : r.2 = 0
 · have e := h0 h
   subst e
   obtain ⟨hok, c, he, hl, _, hback⟩ := decM_enc h
   right
   refine ⟨c, ?_, hl, fun q hq => ?_⟩
   · rw [zJ.j8, YD (by omega), qf, hr, qf, if_pos h, he, qf, if_pos rfl]; rfl
   have hd : yH s n c = some ((YX s 10 (msgOf s n) p.fBody).1, 0) := by
    obtain ⟨r', hr', h0'⟩ := dec_t (b := c) (n := n) hs
    by_cases hc : chkV s = 0
    · have hck : zx s = some 0 := by rw [X5 hs, hc]
      by_cases hm : (zP s n).2 = true
      · rw [decode_eq hck hm, hback]
      rw [yH, hck, qf, if_pos rfl, bnd, if_pos (by simpa using hm)] at hr
      have := Option.some.inj hr
      rw [← this] at h; exact absurd h (by decide)
    rw [yH, X5 hs, qf, if_neg hc] at hr
    have := Option.some.inj hr
    rw [← this] at h; exact absurd h (by decide)
   rw [zJ.j8, hq, YD (by omega), qf, hd, qf, if_pos rfl, he, qf, if_pos rfl]; rfl
 left
 rw [zJ.j8, YD (by omega), qf, hr, qf, if_neg h]; rfl
end
section
set_option maxRecDepth 4000
open AM
theorem pass_twice {s : GSchema} {p : GPacket} (hs : nmS s) (hc : zx s = some 0) (hb : p.fBody.length ≤ 5000) :
 (zJ s p = some (XN, false) ∧ (p.fKind = 3 ∨ p.fKind = 4)) ∨ (∃ c, zJ s p = some (YB p c, true) ∧ c.length ≤ p.fBody.length ∧ zJ s (YB p c) = some (YB p c, true) ∧ (¬ (p.fKind = 3 ∨ p.fKind = 4) → c = p.fBody)) := by
 have same : YB p p.fBody = p := rfl
 have one : ∀ (n : List UInt8) (r6 : GMethod × Bool) (x : Bool), yG s p.fMethod = r6 → (p.fKind = 4 ∨ p.fKind = 3) → x = false → (∀ q : GPacket, q.fKind = p.fKind → q.fMethod = p.fMethod → q.fErr = p.fErr → zJ s q = zJ.j8 s q n) →
  (zJ s p = some (XN, false) ∧ (p.fKind = 3 ∨ p.fKind = 4)) ∨ (∃ c, zJ s p = some (YB p c, true) ∧ c.length ≤ p.fBody.length ∧ zJ s (YB p c) = some (YB p c, true) ∧ (¬ (p.fKind = 3 ∨ p.fKind = 4) → c = p.fBody)) := by
  intro n r6 x _ hk _ hq
  rw [hq p rfl rfl rfl]
  rcases j8_eq (n := n) hs hb with h | ⟨c, h, hl, hback⟩
  · exact Or.inl ⟨h, by omega⟩
  refine Or.inr ⟨c, h, hl, ?_, fun hn => absurd (by omega) hn⟩
  rw [hq (YB p c) rfl rfl rfl]
  exact hback (YB p c) rfl
 have asis : (∀ q : GPacket, q = p → zJ s q = some (q, true)) → (zJ s p = some (XN, false) ∧ (p.fKind = 3 ∨ p.fKind = 4)) ∨ (∃ c, zJ s p = some (YB p c, true) ∧ c.length ≤ p.fBody.length ∧ zJ s (YB p c) = some (YB p c, true) ∧ (¬ (p.fKind = 3 ∨ p.fKind = 4) → c = p.fBody)) := by
  intro h
  exact Or.inr ⟨p.fBody, h p rfl, qq _, h p rfl, fun _ => rfl⟩
 by_cases hm : (yG s p.fMethod).2 = true
 · by_cases hx : ((!(decide (p.fKind = 3))) && ((!(decide (p.fKind = 4))) || (!(decide (p.fErr = 0))))) = true
   · refine asis fun q hq => ?_
     subst hq
     rw [zJ, hc, qf, if_pos rfl, bnd, if_neg (by rw [hm]; decide), hx, zJ.j23, if_pos rfl]
   have hx' := Bool.eq_false_iff.2 hx
   by_cases h4 : p.fKind = 4
   · refine one (yG s p.fMethod).1.fOut _ false rfl (Or.inl h4) rfl fun q h1 h2 h3 => ?_
     rw [zJ, hc, qf, if_pos rfl, bnd, h2, if_neg (by rw [hm]; decide), h1, h3, hx', zJ.j23, if_neg uJ, h1, if_pos h4]
   have h3' : p.fKind = 3 := by
    simp only [ql, qH, uw, decide_eq_false_iff_not] at hx
    exact Classical.byContradiction fun hn => hx ⟨hn, Or.inl h4⟩
   refine one (yG s p.fMethod).1.fIn _ false rfl (Or.inr h3') rfl fun q h1 h2 h3 => ?_
   rw [zJ, hc, qf, if_pos rfl, bnd, h2, if_neg (by rw [hm]; decide), h1, h3, hx', zJ.j23, if_neg uJ, h1, if_neg h4]
 refine asis fun q hq => ?_
 subst hq
 rw [zJ, hc, qf, if_pos rfl, bnd, if_pos (by simpa using hm), zJ.j23, if_pos (by simpa using hm)]
theorem twice_true {s : GSchema} {p : GPacket} (hs : szS s) (hp : p.fBody.length ≤ 140737488351232) : law25_ProxyTwice s p = some true := by
 obtain ⟨few, hf⟩ := few_t s
 rw [law25_ProxyTwice, hf, qf]
 cases few with
 | false => rw [if_pos (show (!false) = true from rfl), qf, Bool.true_or, if_pos rfl, X8]; rfl
 | true =>
  have hn := few_names hs.1 hf
  rw [if_neg (show ¬ (!true) = true by decide), check07_eq hn, X5 hs.1, qf, qf]
  by_cases hc : chkV s = 0
  · have hck : zx s = some 0 := by rw [X5 hs.1, hc]
    rw [decide_eq_true hc, qX, uK]
    by_cases hb : 5000 < (p.fBody.length : Int)
    · rw [if_pos (decide_eq_true hb), X8]; rfl
    rw [if_neg (by simpa using hb), schema_eq hs, qf]
    rcases pass_twice (p := p) hs.1 hck (by omega) with ⟨h, hk⟩ | ⟨c, h, hl, h2, hsame⟩
    · rw [h, qf, if_neg (by simp only [ql, uw, decide_eq_false_iff_not]; omega), if_pos (show (!(XN, false).2) = true from rfl), if_pos (by simp [XN]), X8]; rfl
    rw [h, qf]
    by_cases hk : ((!(decide (p.fKind = 3))) && (!(decide (p.fKind = 4)))) = true
    · have hk' := hk
      simp only [ql, uw, decide_eq_false_iff_not] at hk'
      have e : YB p c = p := by rw [hsame (by omega)]; rfl
      rw [if_pos hk, e, if_pos (by simp), X8]; rfl
    rw [if_neg hk, if_neg (show ¬ (!(YB p c, true).2) = true by simp), qf, show (YB p c, true).1 = YB p c from rfl, h2, qf, if_pos ?_, X8]
    · rfl
    rw [ql]
    refine ⟨by simp, decide_eq_true (Int.ofNat_le.2 hl)⟩
  rw [decide_eq_false hc, qI, Bool.true_or, if_pos rfl, X8]; rfl
end
section
open Go.ChangeShapes Go.WideShapes Go.ChangeAt Go.RowKit Go.Shelf Go.Lib AM
theorem own : ownKnob Tryd.prog.godebug = none := by kernel_rfl
theorem laidOut : laidOutB qh = true := by kernel_rfl
def listed : List (String × DataW Unit) := [("unicode/utf8.acceptRanges", Rows.laid_unicode_utf8_acceptRanges), ("unicode/utf8.first", Rows.laid_unicode_utf8_first)]
noncomputable def laidWorld (os : Os) : World :=
 let w0 := World.holding qh os ⟨#[], #[], []⟩
 let put (h : Array Obj) (g : Nat) (cs : Array Value) : Array Obj := h.modify g fun
  | .cells _ t frozen => .cells cs t frozen
  | o => o
 let h1 := put w0.heap (utf8Ren.g 3) (Lib.firstTab.map fun z => Value.int .u8 z).toArray
 let h2 := put h1 (utf8Ren.g 4) ((uz 16).flatMap fun i => [Value.int .u8 (Lib.accLo i), Value.int .u8 (Lib.accHi i)]).toArray
 { w0 with heap := h2 }
theorem laid_met (os : Os) (args : Array Value) : laidMet qh listed ((laidWorld os).forCall (fun _ _ => 0) ⟨#[], args, []⟩).memory :=
 (LaidIn.of_run (l := listed) [0, 1] 8 (by kernel_rfl) (by kernel_rfl) (by kernel_rfl) (by kernel_rfl)).met
theorem laid_metH (os : Os) (args : Array Value) : laidMetH qh listed ((laidWorld os).forCall (fun _ _ => 0) ⟨#[], args, []⟩).memory := laid_met os args
theorem firstD : Rows.laid_unicode_utf8_first = Lib.firstData := by kernel_rfl
theorem acceptD : (Rows.laid_unicode_utf8_acceptRanges : DataW Unit) = Lib.acceptData := by kernel_rfl
theorem u8types : U8Types qh utf8Ren := ⟨Xp.t5, Xp.t119, Xp.t138, Xp.t139⟩
theorem glb_of_laid {W : World} (hL : laidMetH qh listed W) : Glb W fun b => b < W.heap.size := by
 have h' : laidMet qh listed W := hL
 have r1 := Lib.laidMet.reads h' (.tail _ (.head _))
 have r2 := Lib.laidMet.reads h' (.head _)
 rw [firstD] at r1
 rw [acceptD] at r2
 have ht : Lib.Utf8Tabs (utf8Ren.g 3) (utf8Ren.g 4) W := utf8Tabs_of_readsT u8types ⟨by kernel_rfl, by kernel_rfl, by kernel_rfl, by kernel_rfl, by kernel_rfl, by kernel_rfl, by kernel_rfl⟩ r1 r2
 obtain ⟨t1, t2⟩ := ht
 have lt : ∀ {g o : Nat} {v : Value}, W.cell? ⟨g, o, none⟩ = some v → g < W.heap.size := by
  intro g o v h
  refine Nat.lt_of_not_le fun hle => ?_
  unfold World.cell? at h
  rw [Array.getElem?_eq_none hle] at h
  cases h
 refine ⟨fun g vs hm => ?_, fun g vs hm i v hv => ?_⟩
 · rcases qD.1 hm with e | hm
   · cases e; exact lt (t1 0 (by decide))
   rcases qD.1 hm with e | hm
   · cases e; exact lt (t2 0 (by decide)).1
   cases hm
 rcases qD.1 hm with e | hm
 · cases e
   have hi : i < 256 := by
    have := (qU.1 hv).1; simpa using this
   rw [List.getElem?_map, List.getElem?_range hi] at hv
   cases hv
   exact t1 i hi
 rcases qD.1 hm with e | hm
 · cases e
   have hi : i < 32 := by
    have := (qU.1 hv).1; simpa using this
   rw [List.getElem?_map, List.getElem?_range hi] at hv
   cases hv
   have h1 := t2 (i / 2) (by omega)
   have : i % 2 = 0 ∨ i % 2 = 1 := by omega
   rcases this with h | h
   · have e : 2 * (i / 2) = i := by omega
     rw [e] at h1
     simp only [h, if_true]; exact h1.1
   have e : 2 * (i / 2) + 1 = i := by omega
   rw [e] at h1
   simp only [h]; exact h1.2
 cases hm
end
section
namespace AM
open Go.RowKit Go.ChangeShapes Go.WideShapes Go.Deep
section
variable {H : Type} {enc : TypeId × Value → H} {P : Program} {w : World} {base : Nat} {spare : Nat → Bool} {held : Bool}
def OpensS (enc : TypeId × Value → H) (P : Program) (w : World) (base : Nat) (spare : Nat → Bool) (held : Bool) (N : Nat) (t : TypeId) (A : List AV → Prop) : Prop :=
 ∀ n cs y, DataW.trod enc P w base spare held n t cs = some y → SizeOf.sizeOf y.1 < N → (∀ x ∈ y.1.weights P t, x ≤ reachBytes) → ∃ avs, avs.length = cs.length ∧ A avs ∧ ∀ i, i < avs.length → VR (Env.start w) (gc avs i) (cs.getD i undef)
variable {N : Nat}
theorem OpensS.mono {t : TypeId} {A B : List AV → Prop} (h : OpensS enc P w base spare held N t A) (k : ∀ l, A l → B l) : OpensS enc P w base spare held N t B := fun n cs y hy hN hs => by
 obtain ⟨avs, h1, h2, h3⟩ := h n cs y hy hN hs
 exact ⟨avs, h1, k _ h2, h3⟩
theorem OpensS.less {t : TypeId} {A : List AV → Prop} (h : OpensS enc P w base spare held (N + 1) t A) : OpensS enc P w base spare held N t A := fun n cs y hy hN hs => h n cs y hy (by omega) hs
theorem Opens.sized {t : TypeId} {A : List AV → Prop} (h : Opens enc P w base spare held t A) : OpensS enc P w base spare held N t A := fun n cs y hy _ _ => h n cs y hy
theorem opensS_string {t : TypeId} (ht : P.underlying t = some .string) : OpensS enc P w base spare held N t fun l => ∃ s, l = [.str s] ∧ s.length ≤ reachBytes := by
 intro n cs y hy _ hs
 obtain ⟨m, rfl, hy, hl⟩ := DataW.trod_string ht hy
 refine ⟨[.str m.data.toList], rfl, ⟨_, rfl, ?_⟩, fun i hi => by simp at hi; subst hi; exact .str _ _ rfl⟩
 have := hs m.data.toList.length (by subst hy; simp [DataW.weights])
 simpa using this
def tiles (P : Program) : List Field → Nat → Nat → Bool
 | [], o, e => o == e
 | f :: l, o, e => f.offset == o && tiles P l (o + P.cellsOf f.type) e
theorem tile {cs : List Value} {A : Nat → List AV → Prop} : ∀ (l : List Field) (o k e : Nat), tiles P l o e = true →
 (∀ j f, l[j]? = some f → ∃ avs : List AV, avs.length = P.cellsOf f.type ∧ A (k + j) avs ∧ ∀ i, i < avs.length → VR (Env.start w) (gc avs i) (cs.getD (f.offset + i) undef)) →
 ∃ parts : List (List AV), parts.length = l.length ∧ (∀ j, j < l.length → A (k + j) (parts.getD j [])) ∧ o + parts.flatten.length = e ∧ ∀ i, i < parts.flatten.length → VR (Env.start w) (gc parts.flatten i) (cs.getD (o + i) undef)
 | [], o, k, e, h, _ => ⟨[], rfl, (fun j hj => by simp at hj), by simpa [tiles] using h, (fun i hi => by simp at hi)⟩
 | f :: l, o, k, e, h, hA => by
  simp only [tiles, ql, beq_iff_eq] at h
  obtain ⟨avs, a1, a2, a3⟩ := hA 0 f rfl
  obtain ⟨parts, p1, p2, p3, p4⟩ := tile l (o + P.cellsOf f.type) (k + 1) e h.2 fun j g hg => by
   obtain ⟨x, x1, x2, x3⟩ := hA (j + 1) g (by simpa using hg)
   exact ⟨x, x1, by rw [show k + 1 + j = k + (j + 1) by omega]; exact x2, x3⟩
  refine ⟨avs :: parts, by simp [p1], ?_, by rw [List.flatten_cons, qi]; omega, ?_⟩
  · intro j hj
    cases j with
    | zero => simpa using a2
    | succ j =>
     have := p2 j (by simpa using hj)
     rw [show k + 1 + j = k + (j + 1) by omega] at this
     simpa using this
  intro i hi
  rw [List.flatten_cons] at hi ⊢
  by_cases hlt : i < avs.length
  · have := a3 i hlt
    rw [h.1] at this
    rw [gc, qs, qK hlt]
    simpa [gc, qs] using this
  rw [qi] at hi
  have := p4 (i - avs.length) (by omega)
  rw [show o + P.cellsOf f.type + (i - avs.length) = o + i by omega] at this
  rw [gc, qs, ue (by omega)]
  simpa [gc, qs] using this
theorem mem_weightsEach {x : Nat} : ∀ {ts : List TypeId} {ds : List (DataW H)} (j : Nat) (t : TypeId) (d : DataW H), ts[j]? = some t → ds[j]? = some d → x ∈ d.weights P t → x ∈ DataW.weightsEach P ts ds
 | [], _, j, t, d, h, _, _ => by simp at h
 | _ :: _, [], j, t, d, _, h, _ => by simp at h
 | t' :: ts, d' :: ds, j, t, d, ht, hd, hx => by
  rw [DataW.weightsEach, uC]
  cases j with
  | zero =>
   simp at ht hd; subst ht hd; exact Or.inl hx
  | succ j => exact Or.inr (mem_weightsEach j t d (by simpa using ht) (by simpa using hd) hx)
theorem Xc {x : Nat} {e : TypeId} : ∀ {ds : List (DataW H)} {d : DataW H}, d ∈ ds → x ∈ d.weights P e → x ∈ DataW.weightsAll P e ds
 | [], _, h, _ => by cases h
 | d' :: ds, d, h, hx => by
  rw [DataW.weightsAll, uC]
  rcases qD.1 h with rfl | h
  · exact Or.inl hx
  exact Or.inr (Xc h hx)
theorem xS {t : TypeId} {fs : Array Field} (ht : P.underlying t = some (.struct fs)) (hC : tiles P fs.toList 0 (P.cellsOf t) = true) {A : Nat → List AV → Prop}
 (hA : ∀ j f, fs[j]? = some f → OpensS enc P w base spare held N f.type (A j)) : OpensS enc P w base spare held (N + 1) t fun l => ∃ parts : List (List AV), l = parts.flatten ∧ parts.length = fs.size ∧ ∀ j, j < fs.size → A j (parts.getD j []) := by
 intro n cs y hy hN hs
 obtain ⟨ys, n', _, he, hlen, hyl, hf⟩ := DataW.trod_struct ht hy
 have hends : ∀ (l : List Field) (o e : Nat), tiles P l o e = true → o ≤ e ∧ ∀ (j : Nat) (f : Field), l[j]? = some f → f.offset + P.cellsOf f.type ≤ e := by
  intro l
  induction l with
  | nil => intro o e h; simp [tiles] at h; exact ⟨by omega, fun j f h => by simp at h⟩
  | cons f l ih =>
   intro o e h
   simp only [tiles, ql, beq_iff_eq] at h
   obtain ⟨h1, h2⟩ := ih _ _ h.2
   refine ⟨by omega, fun j g hg => ?_⟩
   cases j with
   | zero => simp at hg; subst hg; omega
   | succ j => exact h2 j g (by simpa using hg)
 obtain ⟨parts, p1, p2, p3, p4⟩ := tile (w := w) (cs := cs) (A := A) fs.toList 0 0 (P.cellsOf t) hC fun j f hj => by
  have hfj : fs[j]? = some f := by simpa using hj
  have hlt : j < fs.size := (Array.getElem?_eq_some_iff.1 hfj).1
  have h1 := hf j f hfj
  rw [qO (by omega)] at h1
  have hend := (hends _ _ _ hC).2 j f hj
  have hm : ys[j]'(by omega) ∈ ys := List.getElem_mem _
  have hsz : SizeOf.sizeOf (ys[j]'(by omega)).1 < N := by
   have h2 : (ys[j]'(by omega)).1 ∈ ys.map (·.1) := List.mem_map_of_mem hm
   have h3 := List.sizeOf_lt_of_mem h2
   rw [he] at hN
   simp only [DataW.agg.sizeOf_spec] at hN
   omega
  obtain ⟨avs, e1, e2, e3⟩ := hA j f hfj _ _ _ h1 hsz fun x hx => hs x (by
   rw [he, DataW.weights, ht]
   exact mem_weightsEach j f.type _ (by simp [hj]) (by rw [List.getElem?_map, qO (by omega)]; rfl) hx)
  have hl1 : avs.length = P.cellsOf f.type := by rw [e1, uF, uG]; omega
  refine ⟨avs, hl1, by rw [qt]; exact e2, fun i hi => ?_⟩
  have h4 := e3 i hi
  have h5 : ((cs.drop f.offset).take (P.cellsOf f.type)).getD i undef = cs.getD (f.offset + i) undef := by
   simp only [qs]
   rw [List.getElem?_take_of_lt (by omega), List.getElem?_drop]
  rw [h5] at h4; exact h4
 refine ⟨parts.flatten, by omega, ⟨parts, rfl, by simpa using p1, fun j hj => ?_⟩, fun i hi => ?_⟩
 · have := p2 j (by simpa using hj)
   rwa [qt] at this
 have := p4 i hi
 rwa [qt] at this
theorem wR {t e : TypeId} (ht : P.underlying t = some (.slice e)) (hpos : 0 < P.cellsOf e) {A : List AV → Prop} (hA : OpensS enc P w base spare held N e A) :
 OpensS enc P w base spare held (N + 1) t fun l => ∃ es, l = [.ds true (List.flatten es) (qc es) false] ∧ (∀ x ∈ es, A x ∧ x.length = P.cellsOf e) ∧ es.length * P.bytesOf e ≤ reachBytes ∧ es.length ≤ maxLen := by
 intro n cs y hy hN hs
 rcases open_slice ht hy with ⟨rfl, _⟩ | ⟨a, len, cap, m, n', D, Pl, rfl, _, hl, hm, hmm, hye, hi⟩
 · refine ⟨[.ds true [] 0 false], rfl, ⟨[], by simp, by simp, by simp, by simp⟩, fun i hi => ?_⟩
   simp at hi; subst hi; exact .dsn _
 have hlm : len ≤ m := by rw [hmm]; split <;> omega
 have hlen : len * P.bytesOf e ≤ reachBytes := by
  have := hs ((((uz len).map D).length + ((uz (m - len)).map fun j => D (len + j)).length) * P.bytesOf e) (by rw [hye]; simp only [DataW.weights, ht]; exact qo ..)
  rw [qV, List.length_range] at this
  exact uu (qQ _ (Nat.le_add_right _ _)) this
 have each : ∀ i, i < len → ∃ avs : List AV, avs.length = P.cellsOf e ∧ A avs ∧ ∀ j, j < avs.length → ∃ v, w.cell? ((a.add (i * P.cellsOf e)).add j) = some v ∧ VR (Env.start w) (gc avs j) v := by
  intro i hil
  obtain ⟨cs', h1, h2⟩ := hi i (by omega)
  obtain ⟨_, hcl, hat⟩ := World.cells?_some h1
  have hmem : D i ∈ (uz len).map D := List.mem_map_of_mem (List.mem_range.2 hil)
  have hsz : SizeOf.sizeOf (D i) < N := by
   have h3 := List.sizeOf_lt_of_mem hmem
   rw [hye] at hN
   simp only [DataW.slice.sizeOf_spec] at hN
   omega
  obtain ⟨avs, e1, e2, e3⟩ := hA _ _ _ h2 hsz fun x hx => hs x (by
   rw [hye]; simp only [DataW.weights, ht]
   exact qp _ (List.mem_append_left _ (Xc hmem hx)))
  refine ⟨avs, by omega, e2, fun j hj => ⟨cs'.getD j undef, ?_, e3 j hj⟩⟩
  rw [hat j (by omega), qs, qO (by omega)]; rfl
 obtain ⟨g, hg⟩ := Classical.axiomOfChoice (r := fun (i : Fin len) (avs : List AV) => avs.length = P.cellsOf e ∧ A avs ∧ ∀ j, j < avs.length → ∃ v, w.cell? ((a.add (i.1 * P.cellsOf e)).add j) = some v ∧ VR (Env.start w) (gc avs j) v) (fun i => each i.1 i.2)
 have hes : ∀ x ∈ List.ofFn g, A x ∧ x.length = P.cellsOf e := by
  intro x hx
  obtain ⟨i, rfl⟩ := List.mem_ofFn.1 hx
  exact ⟨(hg i).2.1, (hg i).1⟩
 refine ⟨[.ds true (List.ofFn g).flatten (List.ofFn g).length false], rfl, ⟨_, rfl, hes, by simpa using hlen, by simp; omega⟩, fun i hi => ?_⟩
 simp at hi; subst hi
 have hfl := length_flat (es := List.ofFn g) (sz := P.cellsOf e) fun x hx => (hes x hx).2
 have hsp : (List.ofFn g).flatten.length ≠ 0 → a.spot = none := by
  intro h0
  rw [hfl] at h0
  have hl0 : 0 < len := by
   rcases Nat.eq_zero_or_pos len with h | h
   · subst h; simp at h0
   exact h
  obtain ⟨v, h1, _⟩ := (hg ⟨0, hl0⟩).2.2 0 (by rw [(hg ⟨0, hl0⟩).1]; exact hpos)
  have := World.cell?_spot h1
  simpa [Addr.add] using this
 have hcell : ∀ k, k < (List.ofFn g).flatten.length → ∃ v, w.cell? ⟨a.block, a.off + k, none⟩ = some v ∧ VR (Env.start w) (gc (List.ofFn g).flatten k) v := by
  intro k hk
  have hs := hsp (by omega)
  rw [hfl] at hk
  simp only [List.length_ofFn] at hk
  have hd : k / P.cellsOf e < len := Nat.div_lt_of_lt_mul (by rw [Nat.mul_comm]; exact hk)
  have hmd : k % P.cellsOf e < P.cellsOf e := Nat.mod_lt _ hpos
  have hsplit : k / P.cellsOf e * P.cellsOf e + k % P.cellsOf e = k := by rw [Nat.mul_comm]; exact Nat.div_add_mod _ _
  obtain ⟨v, h1, h2⟩ := (hg ⟨_, hd⟩).2.2 (k % P.cellsOf e) (by rw [(hg ⟨_, hd⟩).1]; exact hmd)
  refine ⟨v, ?_, ?_⟩
  · rw [add_spot hs, add_spot rfl] at h1
    simp only at h1
    rw [Nat.add_assoc, hsplit] at h1; exact h1
  have := gc_flat (es := List.ofFn g) (fun x hx => (hes x hx).2) (k / P.cellsOf e) (k % P.cellsOf e) hmd (by simpa using hd)
  rw [hsplit] at this
  rw [this]; simpa using h2
 obtain ⟨vs, hvs⟩ : ∃ vs : Nat → Value, ∀ k, k < (List.ofFn g).flatten.length → w.cell? ⟨a.block, a.off + k, none⟩ = some (vs k) ∧ VR (Env.start w) (gc (List.ofFn g).flatten k) (vs k) := by
  refine ⟨fun k => (w.cell? ⟨a.block, a.off + k, none⟩).getD undef, fun k hk => ?_⟩
  obtain ⟨v, h1, h2⟩ := hcell k hk
  simp only [h1, uN]; exact ⟨trivial, h2⟩
 show VR (Env.start w) (.ds true _ _ false) (.slice (some a) len cap)
 rw [List.length_ofFn]
 refine .ds _ _ _ _ a cap vs ?_ ?_ (fun k hk => (hvs k hk).2) hl (fun h => by cases h) ?_
 · by_cases h0 : (List.ofFn g).flatten.length = 0
   · exact .inl (qz.1 h0)
   exact .inr (hsp h0)
 · by_cases h0 : (List.ofFn g).flatten.length = 0
   · exact .inl h0
   refine .inr ⟨?_, fun k hk => (hvs k hk).1⟩
   obtain ⟨_, h, _⟩ := hcell 0 (by omega)
   exact cell_lt (a := ⟨a.block, a.off + 0, none⟩) h
 unfold maxLen at *; omega
theorem OpensS.agg {t : TypeId} {A : List AV → Prop} (h : ∀ N, OpensS enc P w base spare held N t A) {vs : Array Value} {d : DataW H} {p : List MemPlace} (hv : DataW.Trod enc P w base spare held t (.agg vs) d p) (hw : ∀ x ∈ d.weights P t, x ≤ reachBytes) : ∃ l, A l ∧ VR (Env.start w) (.agg l) (.agg vs) := by
 obtain ⟨n, hn⟩ := hv
 obtain ⟨avs, e1, e2, e3⟩ := h _ _ _ _ hn (qu _) hw
 refine ⟨avs, e2, .agg _ _ (by simpa [Value.cells] using e1.symm) fun i hi => ?_⟩
 have := e3 i hi
 simpa [Value.cells, qs, uB] using this
end
end AM
open AM
theorem X2 {α : Type} {e : α → List AV} {p : α → Prop} {es : List (List AV)} (h : ∀ x ∈ es, ∃ y : α, x = e y ∧ p y) : ∃ zs : List α, es.flatten = zs.flatMap e ∧ zs.length = es.length ∧ ∀ z ∈ zs, p z := by
 induction es with
 | nil => exact ⟨[], rfl, rfl, fun z hz => by cases hz⟩
 | cons x es ih =>
  obtain ⟨zs, h1, h2, h3⟩ := ih fun y hy => h y (by simp [hy])
  obtain ⟨y, rfl, hp⟩ := h x (by simp)
  refine ⟨y :: zs, by simp [h1], by simp [h2], fun z hz => ?_⟩
  rcases qD.1 hz with rfl | hz
  · exact hp
  exact h3 z hz
def XX (n : Int) : Prop := -9223372036854775808 ≤ n ∧ n < 9223372036854775808
theorem wf64 {n : Int} (h : (Lit.int .i64 n).wf = true) : XX n := by
 simp only [Lit.wf, IntKind.min, IntKind.max, IntKind.signed, IntKind.bits, ql, decide_eq_true_eq, if_true] at h
 unfold XX; omega
section
variable {H : Type} {enc : TypeId × Value → H} {w : World} {base : Nat} {spare : Nat → Bool} {held : Bool} {N : Nat}
theorem we : OpensS enc qh w base spare held N 3 fun x => ∃ n, x = [.int .i64 n] ∧ XX n :=
 ((opens_int Tryd.underlying3).mono fun x ⟨n, h1, h2⟩ => ⟨n, h1, wf64 h2⟩).sized
theorem wB : OpensS enc qh w base spare held N 9 fun x => ∃ s, x = [.str s] ∧ s.length ≤ 140737488351232 := opensS_string Tryd.underlying9
theorem opens_ints (N : Nat) : OpensS enc qh w base spare held N 24 fun x => ∃ zs : List Int, x = [AV.ds true (zs.flatMap encI) zs.length false] ∧ zs.length * 8 ≤ 140737488351232 ∧ ∀ z ∈ zs, XX z := by
 refine ((wR (N := N) Tryd.underlying24 (by decide +kernel) we).mono ?_).less
 rintro x ⟨es, rfl, h1, h2, _⟩
 obtain ⟨l, e1, e2, e3⟩ := X2 (e := encI) (p := XX) fun y hy => (h1 y hy).1
 rw [show Tryd.prog.bytesOf 3 = 8 by kernel_rfl] at h2
 exact ⟨l, by rw [e1, e2], by rw [e2]; exact h2, e3⟩
end
end
section
open AM
section
variable {H : Type} {enc : TypeId × Value → H} {w : World} {base : Nat} {spare : Nat → Bool} {held : Bool}
end
end
section
open AM
def okType (y : GType) : Prop := XX y.fKind ∧ y.fName.length ≤ 140737488351232
def okField (y : GField) : Prop := y.fName.length ≤ 140737488351232 ∧ XX y.fTag ∧ XX y.fLabel ∧ okType y.fType
def Xx (y : GMessage) : Prop := y.fName.length ≤ 140737488351232 ∧ (y.fFields.length * 56 ≤ 140737488351232 ∧ ∀ v ∈ y.fFields, okField v) ∧ (y.fReserved.length * 8 ≤ 140737488351232 ∧ ∀ v ∈ y.fReserved, XX v)
def okNamed (y : GNamed) : Prop := y.fName.length ≤ 140737488351232 ∧ XX y.fN
def Zt (y : GEnumeration) : Prop := y.fName.length ≤ 140737488351232 ∧ (y.fValues.length * 24 ≤ 140737488351232 ∧ ∀ v ∈ y.fValues, okNamed v)
def vaw (y : GMethod) : Prop := y.fName.length ≤ 140737488351232 ∧ y.fIn.length ≤ 140737488351232 ∧ y.fOut.length ≤ 140737488351232
def okSchema (y : GSchema) : Prop := y.fName.length ≤ 140737488351232 ∧ (y.fMessages.length * 64 ≤ 140737488351232 ∧ ∀ v ∈ y.fMessages, Xx v) ∧ (y.fEnums.length * 40 ≤ 140737488351232 ∧ ∀ v ∈ y.fEnums, Zt v) ∧ (y.fMethods.length * 48 ≤ 140737488351232 ∧ ∀ v ∈ y.fMethods, vaw v)
def okPacket (y : GPacket) : Prop := XX y.fKind ∧ XX y.fFrom ∧ XX y.fTo ∧ XX y.fID ∧ XX y.fVersion ∧ y.fMethod.length ≤ 140737488351232 ∧ XX y.fErr ∧ y.fBody.length ≤ 140737488351232
section
variable {H : Type} {enc : TypeId × Value → H} {w : World} {base : Nat} {spare : Nat → Bool} {held : Bool}
theorem opens_Type (N : Nat) : OpensS enc qh w base spare held N 50 fun x => ∃ y : GType, x = encGType y ∧ okType y := by
 refine ((xS (N := N) (A := fun j x => if j = 0 then ∃ z : Int, x = [.int .i64 z] ∧ XX z else if j = 1 then ∃ z : List UInt8, x = [.str z] ∧ z.length ≤ 140737488351232 else False) Tryd.underlying50 (by decide +kernel) ?_).mono ?_).less
 · intro j f hf
   match j with
   | 0 => cases hf; exact we
   | 1 => cases hf; exact wB
   | j + 2 => simp at hf
 rintro x ⟨parts, rfl, hl, hx⟩
 obtain ⟨a0, e0, w0⟩ := hx 0 (by decide)
 obtain ⟨a1, e1, w1⟩ := hx 1 (by decide)
 refine ⟨⟨a0, a1⟩, ?_, w0, w1⟩
 match parts, hl with
 | [p0, p1], _ =>
  simp only [List.getD_cons_zero, List.getD_cons_succ] at e0 e1
  subst e0 e1; rfl
theorem opens_Field (N : Nat) : OpensS enc qh w base spare held N 52 fun x => ∃ y : GField, x = encGField y ∧ okField y := by
 refine ((xS (N := N) (A := fun j x => if j = 0 then ∃ z : List UInt8, x = [.str z] ∧ z.length ≤ 140737488351232 else if j = 1 then ∃ z : Int, x = [.int .i64 z] ∧ XX z else if j = 2 then ∃ z : Int, x = [.int .i64 z] ∧ XX z else if j = 3 then ∃ z : GType, x = encGType z ∧ okType z else False) Tryd.underlying52 (by decide +kernel) ?_).mono ?_).less
 · intro j f hf
   match j with
   | 0 => cases hf; exact wB
   | 1 => cases hf; exact we
   | 2 => cases hf; exact we
   | 3 => cases hf; exact opens_Type N
   | j + 4 => simp at hf
 rintro x ⟨parts, rfl, hl, hx⟩
 obtain ⟨a0, e0, w0⟩ := hx 0 (by decide)
 obtain ⟨a1, e1, w1⟩ := hx 1 (by decide)
 obtain ⟨a2, e2, w2⟩ := hx 2 (by decide)
 obtain ⟨a3, e3, w3⟩ := hx 3 (by decide)
 refine ⟨⟨a0, a1, a2, a3⟩, ?_, w0, w1, w2, w3⟩
 match parts, hl with
 | [p0, p1, p2, p3], _ =>
  simp only [List.getD_cons_zero, List.getD_cons_succ] at e0 e1 e2 e3
  subst e0 e1 e2 e3; rfl
theorem opens_Fields (N : Nat) : OpensS enc qh w base spare held N 23 fun x => ∃ zs : List GField, x = [AV.ds true (zs.flatMap encGField) zs.length false] ∧ zs.length * 56 ≤ 140737488351232 ∧ ∀ y ∈ zs, okField y := by
 refine ((wR (N := N) Tryd.underlying23 (by decide +kernel) (opens_Field N)).mono ?_).less
 rintro x ⟨es, rfl, h1, h2, _⟩
 obtain ⟨l, e1, e2, e3⟩ := X2 fun y hy => (h1 y hy).1
 rw [show Tryd.prog.bytesOf 52 = 56 by kernel_rfl] at h2
 exact ⟨l, by rw [e1, e2], by rw [e2]; exact h2, e3⟩
theorem opens_Message (N : Nat) : OpensS enc qh w base spare held N 26 fun x => ∃ y : GMessage, x = encGMessage y ∧ Xx y := by
 refine ((xS (N := N) (A := fun j x => if j = 0 then ∃ z : List UInt8, x = [.str z] ∧ z.length ≤ 140737488351232 else if j = 1 then ∃ z : List GField, x = [AV.ds true (qg encGField z) (qc z) false] ∧ (z.length * 56 ≤ 140737488351232 ∧ ∀ v ∈ z, okField v) else if j = 2 then ∃ z : List Int, x = [AV.ds true (qg encI z) (qc z) false] ∧ (z.length * 8 ≤ 140737488351232 ∧ ∀ v ∈ z, XX v) else False) Tryd.underlying26 (by decide +kernel) ?_).mono ?_).less
 · intro j f hf
   match j with
   | 0 => cases hf; exact wB
   | 1 => cases hf; exact opens_Fields N
   | 2 => cases hf; exact opens_ints N
   | j + 3 => simp at hf
 rintro x ⟨parts, rfl, hl, hx⟩
 obtain ⟨a0, e0, w0⟩ := hx 0 (by decide)
 obtain ⟨a1, e1, w1⟩ := hx 1 (by decide)
 obtain ⟨a2, e2, w2⟩ := hx 2 (by decide)
 refine ⟨⟨a0, a1, a2⟩, ?_, w0, w1, w2⟩
 match parts, hl with
 | [p0, p1, p2], _ =>
  simp only [List.getD_cons_zero, List.getD_cons_succ] at e0 e1 e2
  subst e0 e1 e2; rfl
theorem opens_Messages (N : Nat) : OpensS enc qh w base spare held N 27 fun x => ∃ zs : List GMessage, x = [AV.ds true (zs.flatMap encGMessage) zs.length false] ∧ zs.length * 64 ≤ 140737488351232 ∧ ∀ y ∈ zs, Xx y := by
 refine ((wR (N := N) Tryd.underlying27 (by decide +kernel) (opens_Message N)).mono ?_).less
 rintro x ⟨es, rfl, h1, h2, _⟩
 obtain ⟨l, e1, e2, e3⟩ := X2 fun y hy => (h1 y hy).1
 rw [show Tryd.prog.bytesOf 26 = 64 by kernel_rfl] at h2
 exact ⟨l, by rw [e1, e2], by rw [e2]; exact h2, e3⟩
theorem opens_Named (N : Nat) : OpensS enc qh w base spare held N 92 fun x => ∃ y : GNamed, x = encGNamed y ∧ okNamed y := by
 refine ((xS (N := N) (A := fun j x => if j = 0 then ∃ z : List UInt8, x = [.str z] ∧ z.length ≤ 140737488351232 else if j = 1 then ∃ z : Int, x = [.int .i64 z] ∧ XX z else False) Tryd.underlying92 (by decide +kernel) ?_).mono ?_).less
 · intro j f hf
   match j with
   | 0 => cases hf; exact wB
   | 1 => cases hf; exact we
   | j + 2 => simp at hf
 rintro x ⟨parts, rfl, hl, hx⟩
 obtain ⟨a0, e0, w0⟩ := hx 0 (by decide)
 obtain ⟨a1, e1, w1⟩ := hx 1 (by decide)
 refine ⟨⟨a0, a1⟩, ?_, w0, w1⟩
 match parts, hl with
 | [p0, p1], _ =>
  simp only [List.getD_cons_zero, List.getD_cons_succ] at e0 e1
  subst e0 e1; rfl
theorem opens_Nameds (N : Nat) : OpensS enc qh w base spare held N 88 fun x => ∃ zs : List GNamed, x = [AV.ds true (zs.flatMap encGNamed) zs.length false] ∧ zs.length * 24 ≤ 140737488351232 ∧ ∀ y ∈ zs, okNamed y := by
 refine ((wR (N := N) Tryd.underlying88 (by decide +kernel) (opens_Named N)).mono ?_).less
 rintro x ⟨es, rfl, h1, h2, _⟩
 obtain ⟨l, e1, e2, e3⟩ := X2 fun y hy => (h1 y hy).1
 rw [show Tryd.prog.bytesOf 92 = 24 by kernel_rfl] at h2
 exact ⟨l, by rw [e1, e2], by rw [e2]; exact h2, e3⟩
theorem XW (N : Nat) : OpensS enc qh w base spare held N 90 fun x => ∃ y : GEnumeration, x = encGEnumeration y ∧ Zt y := by
 refine ((xS (N := N) (A := fun j x => if j = 0 then ∃ z : List UInt8, x = [.str z] ∧ z.length ≤ 140737488351232 else if j = 1 then ∃ z : List GNamed, x = [AV.ds true (qg encGNamed z) (qc z) false] ∧ (z.length * 24 ≤ 140737488351232 ∧ ∀ v ∈ z, okNamed v) else False) Tryd.underlying90 (by decide +kernel) ?_).mono ?_).less
 · intro j f hf
   match j with
   | 0 => cases hf; exact wB
   | 1 => cases hf; exact opens_Nameds N
   | j + 2 => simp at hf
 rintro x ⟨parts, rfl, hl, hx⟩
 obtain ⟨a0, e0, w0⟩ := hx 0 (by decide)
 obtain ⟨a1, e1, w1⟩ := hx 1 (by decide)
 refine ⟨⟨a0, a1⟩, ?_, w0, w1⟩
 match parts, hl with
 | [p0, p1], _ =>
  simp only [List.getD_cons_zero, List.getD_cons_succ] at e0 e1
  subst e0 e1; rfl
theorem Xv (N : Nat) : OpensS enc qh w base spare held N 28 fun x => ∃ zs : List GEnumeration, x = [AV.ds true (zs.flatMap encGEnumeration) zs.length false] ∧ zs.length * 40 ≤ 140737488351232 ∧ ∀ y ∈ zs, Zt y := by
 refine ((wR (N := N) Tryd.underlying28 (by decide +kernel) (XW N)).mono ?_).less
 rintro x ⟨es, rfl, h1, h2, _⟩
 obtain ⟨l, e1, e2, e3⟩ := X2 fun y hy => (h1 y hy).1
 rw [show Tryd.prog.bytesOf 90 = 40 by kernel_rfl] at h2
 exact ⟨l, by rw [e1, e2], by rw [e2]; exact h2, e3⟩
theorem opens_Method (N : Nat) : OpensS enc qh w base spare held N 73 fun x => ∃ y : GMethod, x = encGMethod y ∧ vaw y := by
 refine ((xS (N := N) (A := fun j x => if j = 0 then ∃ z : List UInt8, x = [.str z] ∧ z.length ≤ 140737488351232 else if j = 1 then ∃ z : List UInt8, x = [.str z] ∧ z.length ≤ 140737488351232 else if j = 2 then ∃ z : List UInt8, x = [.str z] ∧ z.length ≤ 140737488351232 else False) Tryd.underlying73 (by decide +kernel) ?_).mono ?_).less
 · intro j f hf
   match j with
   | 0 => cases hf; exact wB
   | 1 => cases hf; exact wB
   | 2 => cases hf; exact wB
   | j + 3 => simp at hf
 rintro x ⟨parts, rfl, hl, hx⟩
 obtain ⟨a0, e0, w0⟩ := hx 0 (by decide)
 obtain ⟨a1, e1, w1⟩ := hx 1 (by decide)
 obtain ⟨a2, e2, w2⟩ := hx 2 (by decide)
 refine ⟨⟨a0, a1, a2⟩, ?_, w0, w1, w2⟩
 match parts, hl with
 | [p0, p1, p2], _ =>
  simp only [List.getD_cons_zero, List.getD_cons_succ] at e0 e1 e2
  subst e0 e1 e2; rfl
theorem opens_Methods (N : Nat) : OpensS enc qh w base spare held N 29 fun x => ∃ zs : List GMethod, x = [AV.ds true (zs.flatMap encGMethod) zs.length false] ∧ zs.length * 48 ≤ 140737488351232 ∧ ∀ y ∈ zs, vaw y := by
 refine ((wR (N := N) Tryd.underlying29 (by decide +kernel) (opens_Method N)).mono ?_).less
 rintro x ⟨es, rfl, h1, h2, _⟩
 obtain ⟨l, e1, e2, e3⟩ := X2 fun y hy => (h1 y hy).1
 rw [show Tryd.prog.bytesOf 73 = 48 by kernel_rfl] at h2
 exact ⟨l, by rw [e1, e2], by rw [e2]; exact h2, e3⟩
theorem opens_Schema (N : Nat) : OpensS enc qh w base spare held N 31 fun x => ∃ y : GSchema, x = encGSchema y ∧ okSchema y := by
 refine ((xS (N := N) (A := fun j x => if j = 0 then ∃ z : List UInt8, x = [.str z] ∧ z.length ≤ 140737488351232 else if j = 1 then ∃ z : List GMessage, x = [AV.ds true (qg encGMessage z) (qc z) false] ∧ (z.length * 64 ≤ 140737488351232 ∧ ∀ v ∈ z, Xx v) else if j = 2 then ∃ z : List GEnumeration, x = [AV.ds true (qg encGEnumeration z) (qc z) false] ∧ (z.length * 40 ≤ 140737488351232 ∧ ∀ v ∈ z, Zt v) else if j = 3 then ∃ z : List GMethod, x = [AV.ds true (qg encGMethod z) (qc z) false] ∧ (z.length * 48 ≤ 140737488351232 ∧ ∀ v ∈ z, vaw v) else False) Tryd.underlying31 (by decide +kernel) ?_).mono ?_).less
 · intro j f hf
   match j with
   | 0 => cases hf; exact wB
   | 1 => cases hf; exact opens_Messages N
   | 2 => cases hf; exact Xv N
   | 3 => cases hf; exact opens_Methods N
   | j + 4 => simp at hf
 rintro x ⟨parts, rfl, hl, hx⟩
 obtain ⟨a0, e0, w0⟩ := hx 0 (by decide)
 obtain ⟨a1, e1, w1⟩ := hx 1 (by decide)
 obtain ⟨a2, e2, w2⟩ := hx 2 (by decide)
 obtain ⟨a3, e3, w3⟩ := hx 3 (by decide)
 refine ⟨⟨a0, a1, a2, a3⟩, ?_, w0, w1, w2, w3⟩
 match parts, hl with
 | [p0, p1, p2, p3], _ =>
  simp only [List.getD_cons_zero, List.getD_cons_succ] at e0 e1 e2 e3
  subst e0 e1 e2 e3; rfl
theorem opens_Packet (N : Nat) : OpensS enc qh w base spare held N 64 fun x => ∃ y : GPacket, x = encGPacket y ∧ okPacket y := by
 refine ((xS (N := N) (A := fun j x => if j = 0 then ∃ z : Int, x = [.int .i64 z] ∧ XX z else if j = 1 then ∃ z : Int, x = [.int .i64 z] ∧ XX z else if j = 2 then ∃ z : Int, x = [.int .i64 z] ∧ XX z else if j = 3 then ∃ z : Int, x = [.int .i64 z] ∧ XX z else if j = 4 then ∃ z : Int, x = [.int .i64 z] ∧ XX z else if j = 5 then ∃ z : List UInt8, x = [.str z] ∧ z.length ≤ 140737488351232 else if j = 6 then ∃ z : Int, x = [.int .i64 z] ∧ XX z else if j = 7 then ∃ z : List UInt8, x = [.str z] ∧ z.length ≤ 140737488351232 else False) Tryd.underlying64 (by decide +kernel) ?_).mono ?_).less
 · intro j f hf
   match j with
   | 0 => cases hf; exact we
   | 1 => cases hf; exact we
   | 2 => cases hf; exact we
   | 3 => cases hf; exact we
   | 4 => cases hf; exact we
   | 5 => cases hf; exact wB
   | 6 => cases hf; exact we
   | 7 => cases hf; exact wB
   | j + 8 => simp at hf
 rintro x ⟨parts, rfl, hl, hx⟩
 obtain ⟨a0, e0, w0⟩ := hx 0 (by decide)
 obtain ⟨a1, e1, w1⟩ := hx 1 (by decide)
 obtain ⟨a2, e2, w2⟩ := hx 2 (by decide)
 obtain ⟨a3, e3, w3⟩ := hx 3 (by decide)
 obtain ⟨a4, e4, w4⟩ := hx 4 (by decide)
 obtain ⟨a5, e5, w5⟩ := hx 5 (by decide)
 obtain ⟨a6, e6, w6⟩ := hx 6 (by decide)
 obtain ⟨a7, e7, w7⟩ := hx 7 (by decide)
 refine ⟨⟨a0, a1, a2, a3, a4, a5, a6, a7⟩, ?_, w0, w1, w2, w3, w4, w5, w6, w7⟩
 match parts, hl with
 | [p0, p1, p2, p3, p4, p5, p6, p7], _ =>
  simp only [List.getD_cons_zero, List.getD_cons_succ] at e0 e1 e2 e3 e4 e5 e6 e7
  subst e0 e1 e2 e3 e4 e5 e6 e7; rfl
end
end
section
open AM
section
variable {H : Type} {enc : TypeId × Value → H} {w : World} {base : Nat} {spare : Nat → Bool} {held : Bool}
end
theorem szS_of {s : GSchema} (h : okSchema s) : szS s :=
 ⟨⟨h.1, fun m hm => ⟨(h.2.1.2 m hm).1, fun f hf => ((h.2.1.2 m hm).2.1.2 f hf).1⟩, fun e he => ⟨(h.2.2.1.2 e he).1, fun v hv => ((h.2.2.1.2 e he).2.2 v hv).1⟩, fun x hx => (h.2.2.2.2 x hx).1⟩,
  h.2.1.1, h.2.2.1.1, h.2.2.2.1, fun m hm => ⟨(h.2.1.2 m hm).2.1.1, (h.2.1.2 m hm).2.2.1⟩, fun e he => (h.2.2.1.2 e he).2.1⟩
end
end Go.Proofs.YtaddlmlpeghonaaDoor
