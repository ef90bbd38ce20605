/- Parts of the proof, cut down to what it needs. -/
import Derived.Test.YtaddlmlpeghonaaGreatDoorYSg
import Derived.Test.YtaddlmlpeghonaaGreatDoorYU
import Derived.Test.YtaddlmlpeghonaaGreatDoorRows
import Derived.Test.YtaddlmlpeghonaaGreatDoorChecked
import Derived.Test.YtaddlmlpeghonaaGreatDoorTie
import Derived.ProofKit
import Derived.OpenShut
import Derived.ShutString
import Derived.ChangeOld
import Derived.ChangeSame
import Derived.ChangeVars
import Derived.JoinedOf
import Derived.RowKit
import Derived.LaidLaws
import Derived.LaidHandle
import Derived.Lib.LaidIn
import Derived.Lib.LaidU8T
import Derived.SevenTiedAt
set_option linter.constructorNameAsVariable false
set_option linter.unusedSimpArgs false
set_option linter.unusedVariables false
namespace Go.Proofs.YtaddlmlpeghonaaGreatDoor
open _root_.List renaming length → qb, flatMap → qe, length_append → qi, length_cons → qj, length_nil → ql, mem_cons_self → qp, append_assoc → qq, mem_cons_of_mem → qr, getD_eq_getElem?_getD → qv, map_nil → qw, append_nil → qy, nil_append → qA, drop_zero → qB, map_append → qC, map_cons → qD, cons_append → qE, length_singleton → qF, length_eq_zero_iff → qI, replicate → qJ, mem_cons → qK, getElem?_append_left → qR, flatMap_cons → qT, all_cons → qW, getElem?_eq_getElem → qX, range_zero → qY, getElem?_eq_some_iff → q2, flatMap_append → q3, length_map → q7, range_succ → q9, all_nil → ua, all_eq_true → ub, getElem?_set_ne → uc, take_of_length_le → ug, getElem?_append_right → uh, flatMap_nil → ui, take_length → ul, pairwise_cons → um, take_append_drop → un, mem_append_right → uo, getElem?_set_self → ut, getElem?_eq_none → uu, set_cons_zero → uv, mem_append → uw, mem_map → ux, mem_singleton → uA, filter_cons → uB, range → uD, getElem?_cons_zero → uG, getElem?_cons_succ → uH, length_take → uI, length_drop → uJ, set_cons_succ → uO, mem_append_left → uS, drop_eq_getElem_cons → uU, nodup_cons → uW, eq_nil_of_length_eq_zero → u0, drop_drop → u5
open _root_.Option renaming bind_some → qg, map_some → uz, getD_some → uN
open _root_.Nat renaming reduceEqDiff → qa, reduceLT → qc, reduceAdd → qd, reduceLeDiff → qf, zero_add → qn, lt_succ_self → qs, reduceMul → qt, le_refl → qu, reduceSub → qG, mul_le_mul_right → qZ, reduceMod → ue, lt_of_lt_of_le → uf, zero_le → uk, le_trans → ur, zero_mul → uC, sub_self → uL, sub_zero → uM, succ_mul → uQ, add_zero → uR, add_mul → uV, lt_or_ge → uY, add_assoc → u3
open _root_.Bool renaming and_eq_true → qm, not_false → qz, not_true → qL, or_eq_true → qM, or_true → qO, and_false → qP, and_true → qQ, or_false → qS, and_self → qU, false_eq_true → q1, true_and → uq, not_eq_true' → uE, false_or → uF, false_ne_true → uK, true_or → uT
open _root_.Int renaming toNat → qH, toNat_natCast → qV, reduceEq → uZ, le_refl → u4
open _root_.BitVec renaming ofInt → qx, toNat → uj
open _root_.Array renaming length_toList → ud, getD_eq_getD_getElem? → uy, getElem?_eq_getElem → uP, getElem?_setIfInBounds_ne → uX, getElem?_modify → u6
open _root_.UInt8 renaming ofNat → q5
open Result renaming andThen_ok → qk
open Sem renaming run_bind → qo, run_pure → qN
open _root_.Go.Proofs.Tryz renaming prog → qh
section
set_option maxRecDepth 4000
open AM
theorem ref_more (n : Nat) : q5 (qH (IntKind.u8.wrap ((IntKind.u8.wrap ((n : Int).tmod 128)) + 128))) = q5 (n % 128 + 128) := by
 have e : (n : Int).tmod 128 = ((n % 128 : Nat) : Int) := by rw [Int.tmod_eq_emod_of_nonneg (by omega)]; omega
 rw [e, u8w, show ((n % 128 % 256 : Nat) : Int) + 128 = ((n % 128 + 128 : Nat) : Int) by omega, u8w, qV]
 congr 1; omega
theorem ref_next {n : Nat} (h : n < 2 ^ 64) : IntKind.u64.wrap ((n : Int).tdiv 128) = ((n / 128 : Nat) : Int) := by
 rw [Int.tdiv_eq_ediv_of_nonneg (by omega), u64i (by omega) (by omega)]; omega
theorem ref02_l : ∀ (k n : Nat) (l : List UInt8), n < 2 ^ 64 → (vb n).length ≤ k → l.length + k ≤ 1000000 → yX.l8 k l (n : Int) = some (l ++ vb n)
 | 0, n, l, _, h, _ => by have := vb_pos n; omega
 | k + 1, n, l, hn, h, hl => by
  by_cases h1 : n < 128
  · rw [yX.l8, if_neg (by omega), xF (by omega), qg, lastByte n h1, vb_lt h1]
  rw [vb_ge h1, qj] at h
  rw [yX.l8, if_pos (by omega), xF (by omega), qg, ref_more, ref_next hn, vb_ge h1, ref02_l k (n / 128) _ (by omega) (by omega) (by rw [qi, qF]; omega), qq]; rfl
theorem ref02_m : ∀ (k j n : Nat) (l r : List UInt8), n < 2 ^ 64 → yX.l8 k l (n : Int) = some r → yX.l8 (k + j) l (n : Int) = some r
 | 0, _, _, _, _, _, h => by cases h
 | k + 1, j, n, l, r, hn, h => by
  rw [Nat.succ_add_eq_add_succ, Nat.add_succ]
  by_cases h1 : (128 : Int) ≤ (n : Int)
  · rw [yX.l8, if_pos h1] at h ⊢
    cases hr : Yf (qb l + 1) 1 with
    | none => rw [hr] at h; cases h
    | some u =>
     rw [hr, qg, ref_next hn] at h
     rw [qg, ref_next hn]; exact ref02_m k j _ _ _ (by omega) h
  rw [yX.l8, if_neg h1] at h ⊢; exact h
theorem Xu {n : Nat} (h : n < 2 ^ 64) : yX (n : Int) = some (vb n) := by
 have := ref02_m 10 999999999999999999990 n [] (vb n) h (ref02_l 10 n [] h (ZP h) (by decide));exact this
theorem ref02_Zig_eq {n : Int} (h : In64 n) : Zi n = (zg n : Int) := by
 obtain ⟨h1, h2⟩ := h;unfold Zi zg
 by_cases h0 : 0 ≤ n
 · rw [if_pos h0, if_pos h0, u64i h0 (by omega), u64i (by omega) (by omega)]; omega
 rw [if_neg h0, if_neg h0, yx (x := n + 1) (by omega) (by omega), yx (by omega) (by omega), u64i (x := 0 - (n + 1)) (by omega) (by omega), u64i (x := 2 * (0 - (n + 1))) (by omega) (by omega), u64i (by omega) (by omega)]; omega
theorem XP (r : GRaw) : wd r = ym r := by
 unfold wd ym
 by_cases h0 : r.fWire = 0
 · simp only [h0, if_true]
 by_cases h1 : r.fWire = 1
 · simp only [h1, decide_true, uq, if_true]
 simp only [h0, h1, if_false, decide_false, Bool.false_and]
theorem ref04_Put_eq {r : GRaw} (h : Yu r) : wL r = some (X9 r) := by
 obtain ⟨hc, hn⟩ := h;obtain ⟨h1, h2, h3⟩ := ZK hc
 have ek : IntKind.u64.wrap (IntKind.i64.wrap ((IntKind.i64.wrap (2 * r.fTag)) + r.fWire)) = ((vba r : Nat) : Int) := by
  rw [yx (x := 2 * r.fTag) (by omega) (by omega), yx (by omega) (by omega), u64i (by omega) (by omega), vba]; omega
 have k1 : vba r < 2 ^ 64 := by unfold vba; omega
 have kl := ZP k1;unfold wL;rw [ek, Xu k1, qg]
 rcases h3 with ⟨h3, h4⟩ | ⟨h3, h4, h5⟩
 · have hz := ZP (zg_lt hn);rw [if_pos h3, bnd, ref02_Zig_eq hn, Xu (zg_lt hn), qg, xF (by omega), qg, X9, if_pos h3]
 have hb := ZP (n := r.fB.length) (by omega);rw [if_neg (by omega), u64w (by omega), Xu (by omega), qg, xF (by omega), qg, xF (by rw [qi]; omega), qg, X9, if_neg (by omega), qq]
theorem ref04_l13 : ∀ (q : List GRaw) (x : Int) (acc : List UInt8), (∀ r ∈ q, Yu r) → acc.length ≤ 4096 → yd.l13 q x acc = some (if 4096 < (acc ++ Zv q).length then ([], 4) else (acc ++ Zv q, 0))
 | [], x, acc, _, ha => by
  rw [yd.l13, Zv, ui, qy, if_neg (by omega)]
 | r :: q, x, acc, h, ha => by
  have hr := h r (qp ..);have hrl := rawB_le hr;rw [yd.l13, ref04_Put_eq hr, qg, xF (by omega), qg]
  have e : acc ++ Zv (r :: q) = (acc ++ X9 r) ++ Zv q := by rw [Zv, qT, qq]; rfl
  rw [e]
  by_cases h1 : 4096 < (acc ++ X9 r).length
  · rw [if_pos (by omega), if_pos (by rw [qi]; omega)]
  rw [if_neg (by omega), ref04_l13 q (x + 1) _ (fun s hs => h s (qr _ hs)) (by omega)]
theorem ref04_l4 (a : List GRaw) : ∀ (q : List GRaw) (x : Int), yd.l4 a q x = if q.all ym then yd.l13 a 0 [] else some ([], 1)
 | [], x => by rw [yd.l4]; rfl
 | r :: q, x => by
  rw [yd.l4, bnd, qW, XP]
  by_cases h : ym r = true
  · rw [h, if_neg (by decide), ref04_l4 a q]; rfl
  rw [if_pos (by simpa using h), if_neg (by rw [qm]; exact fun hh => h hh.1)]
theorem vbP {l : List GRaw} (h : ∀ r ∈ l, In64 r.fN) : yd l = yc l := by
 rw [putAll_eq h, yd, ref04_l4]
 by_cases h1 : l.all ym = true
 · rw [if_pos h1, if_pos h1, ref04_l13 l 0 [] (fun r hr => ⟨ub.1 h1 r hr, h r hr⟩) (by decide)]; rfl
 rw [if_neg h1, if_neg h1]
theorem set_app0 {α : Type} {A B : List α} {x y : α} {i : Int} (h : i = A.length) : setI (A ++ x :: B) i y = A ++ y :: B := by
 subst h;rw [setI, qV, List.set_append_right _ _ (qu _), uL, uv]
theorem ref_l20 {r : GRaw} (x4 : Int) (rec8 : Int → List GRaw → Option (List GRaw)) : ∀ (k : Nat) (A B : List GRaw), A.Pairwise TagLe → (∀ b ∈ B, r.fTag < b.fTag) → A.length < k → A.length < 1000000 →
 zE.l20 x4 rec8 k (A ++ r :: B) (A.length : Int) = rec8 (x4 + 1) (va0 r (A ++ B))
 | 0, A, B, _, _, h, _ => by omega
 | k + 1, A, B, hA, hB, hk, hn => by
  have stop : (∀ a ∈ A, a.fTag ≤ r.fTag) → zE.j23 x4 rec8 (A ++ r :: B) (A.length : Int) (zE.l20 x4 rec8 k) false = rec8 (x4 + 1) (va0 r (A ++ B)) := by
   intro hle
   rw [zE.j23, if_neg (by decide), vbn hle hB]
  rcases List.eq_nil_or_concat A with rfl | ⟨A', a, rfl⟩
  · rw [zE.l20, if_neg (by simp)];exact stop (fun a ha => by cases ha)
  rw [List.concat_eq_append] at *
  have hlA : (A' ++ [a]).length = A'.length + 1 := by rw [qi, qF]
  have e1 : IntKind.i64.wrap (((A' ++ [a]).length : Int) - 1) = (A'.length : Int) := by rw [yx (by omega) (by omega)]; omega
  have i1 : Zb ((A' ++ [a]) ++ r :: B) (A'.length : Int) = some a := by rw [qq]; exact Yj rfl
  have i2 : Zb ((A' ++ [a]) ++ r :: B) ((A' ++ [a]).length : Int) = some r := Yj rfl;rw [zE.l20, if_pos (by omega), e1, i1, qg, i2, qg]
  by_cases hgt : r.fTag < a.fTag
  · have s1 : setI ((A' ++ [a]) ++ r :: B) (A'.length : Int) r = (A' ++ [r]) ++ r :: B := by
     rw [qq, qq]; exact set_app0 rfl
    have i3 : Zb ((A' ++ [r]) ++ r :: B) ((A' ++ [a]).length : Int) = some r := Yj (by rw [hlA, qi, qF]);have s2 : setI ((A' ++ [r]) ++ r :: B) ((A' ++ [a]).length : Int) a = (A' ++ [r]) ++ a :: B := set_app0 (by rw [hlA, qi, qF]);rw [decide_eq_true hgt, zE.j23, if_pos rfl, i2, qg, e1, i1, qg, s1, i3, qg, s2, qq]
    have := ref_l20 (r := r) x4 rec8 k A' (a :: B) (List.pairwise_append.1 hA).1 (fun b hb => by
     rcases qK.1 hb with rfl | hb
     · exact hgt
     exact hB b hb) (by omega) (by omega)
    rw [qq];exact this
  rw [decide_eq_false hgt];refine stop ?_
  intro x hx
  rcases uw.1 hx with hx | hx
  · have := (List.pairwise_append.1 hA).2.2 x hx a (uA.2 rfl)
    unfold TagLe at this; omega
  rw [uA] at hx; subst hx; omega
theorem ref_l8 : ∀ (q S : List GRaw) (x : Int), S.Pairwise TagLe → S.length + q.length < 1000000 → zE.l8 q x S = some (srtA q S)
 | [], S, x, _, _ => rfl
 | r :: q, S, x, hS, hn => by
  rw [qj] at hn;rw [zE.l8, xF (by omega), qg];have := ref_l20 (r := r) x (zE.l8 q) rounds S [] hS (fun b hb => by cases hb) (by have := yH; omega) (by omega);rw [qy] at this;rw [this, ref_l8 q (va0 r S) _ (ZH hS) (by rw [vbm]; omega), srtA]
theorem vbN {l : List GRaw} (h : l.length < 1000000) : zE l = some (srt l) :=
 ref_l8 l [] 0 List.Pairwise.nil (by rw [ql]; omega)
theorem ref04_ris : ∀ (L : List GRaw) (k : Nat) (x : Int), xo.l4 L k x = yZ.l4 L k x
 | L, 0, x => rfl
 | L, k + 1, x => by
  rw [xo.l4, yZ.l4];simp only [ref04_ris L k]
theorem vbO (l : List GRaw) : xo l = yZ l := ref04_ris l rounds 1
theorem rdeep_l18 {self : GTree → Int → Option Int} {m : Nat} {a : Int} (ha : a = 100 - m) (hm : m ≤ 100) (hs : ∀ x, self x (a + 1) = some ((Xi m x : Nat) : Int)) {x7 : Int} {rec10 : Int → Int → Option Int} : ∀ (l : List GTree) (i : Int) (d : Nat),
 zT.l18 self a x7 rec10 l i (d : Int) = rec10 (x7 + 1) ((maxD (Xi m) l d : Nat) : Int)
 | [], i, d => rfl
 | x :: l, i, d => by
  rw [zT.l18, yx (by omega) (by omega), hs, qg, maxD]
  have e : (if (d : Int) < ((Xi m x : Nat) : Int) then ((Xi m x : Nat) : Int) else (d : Int)) = ((max d (Xi m x) : Nat) : Int) := by split <;> omega
  rw [e]; exact rdeep_l18 ha hm hs l _ _
theorem rdeep_l10 {self : GTree → Int → Option Int} {m : Nat} {a : Int} (ha : a = 100 - m) (hm : m ≤ 100) (hs : ∀ x, self x (a + 1) = some ((Xi m x : Nat) : Int)) : ∀ (l : List GEntry) (i : Int) (d : Nat), d ≤ m →
 zT.l10 self a l i (d : Int) = some ((maxD (Xi m) (l.flatMap GEntry.fTrees) d + 1 : Nat) : Int)
 | [], i, d, hd => by
  rw [zT.l10, yx (by omega) (by omega), ui, maxD, if_neg (by omega)]; rfl
 | e :: l, i, d, hd => by
  rw [zT.l10, rdeep_l18 ha hm hs, rdeep_l10 ha hm hs l _ _ (vbU hd fun x _ => depT_le m x), qT, maxD_app]
theorem rdeep_eq : ∀ (m k : Nat) (t : GTree) (a : Int), m ≤ 101 → m < k → a = 101 - m → zT k t a = some ((Xi m t : Nat) : Int)
 | m, 0, t, a, _, h, _ => by omega
 | 0, k + 1, t, a, _, _, ha => by
  rw [zT, zT.body, if_pos (by simp only [qM, decide_eq_true_eq]; right; omega)]; rfl
 | m + 1, k + 1, t, a, hm, hk, ha => by
  rw [zT, zT.body, Xi]
  by_cases h3 : t.fKind = 3
  · rw [if_neg (by simp only [h3, decide_true, qL, uF, decide_eq_true_eq]; omega), if_pos h3];exact rdeep_l10 (by omega) (by omega) (fun x => rdeep_eq m k x _ (by omega) (by omega) (by omega)) t.fEntries 0 0 (uk _)
  rw [if_pos (by simp [h3]), if_neg h3]; rfl
theorem ref09_Depth_eq (t : GTree) : wE t = some ((Xi 101 t : Nat) : Int) := by
 rw [wE, rdeep_eq 101 rounds t 0 (by omega) (by have := yH; omega) (by omega)]; rfl
theorem rhas_eq {a : Int} : ∀ (l : List GEntry) (i : Int), xZ.l4 a l i = l.any fun e => decide (e.fTag = a)
 | [], i => rfl
 | e :: l, i => by
  rw [xZ.l4, List.any_cons]
  by_cases h : e.fTag = a
  · rw [if_pos h, decide_eq_true h, uT]
  rw [if_neg h, decide_eq_false h, uF, rhas_eq]
theorem rrest_l4 {t : GTree} (hr : t.fRest.length < 4611686018427387904) : ∀ (l : List GRaw) (i : Int), yL.l4 t l i = some (l.all (fun r => ym r && !(t.fEntries.any fun e => decide (e.fTag = r.fTag))) && risB t.fRest)
 | [], i => by rw [yL.l4, vbO, rising_eq hr]; rfl
 | r :: l, i => by
  rw [yL.l4, bnd, qW, XP]
  cases hc : ym r with
  | false => rfl
  | true =>
   rw [if_neg (by decide), bnd, xZ, rhas_eq]
   cases ha : t.fEntries.any fun e => decide (e.fTag = r.fTag) with
   | true => rfl
   | false => rw [yL.j10, if_neg (by decide), rrest_l4 hr l]; rfl
theorem vaW {self : GTree → Option Bool} {f : GTree → Bool} {x3 : Int} {rec6 : Int → Int → Option Bool} {y : GEntry} (hy : 1 ≤ y.fTrees.length) : ∀ (l : List GTree) (i : Int), (∀ x ∈ l, self x = some (f x)) →
 zA.l18 self x3 rec6 y l i = if (l.all fun x => decide (x.fKind = (y.fTrees.headD Yt).fKind) && f x) = true then rec6 (x3 + 1) y.fTag else some false
 | [], i, _ => by rw [zA.l18]; rfl
 | x :: l, i, h => by
  have e1 : Zb y.fTrees 0 = some (y.fTrees.headD Yt) := by
   cases ht : y.fTrees with
   | nil => rw [ht] at hy; exact absurd hy (by decide)
   | cons a l => rfl
  rw [zA.l18, e1, qg, qW]
  by_cases hk : x.fKind = (y.fTrees.headD Yt).fKind
  · rw [if_pos hk, h x (qp ..), qg, decide_eq_true hk, uq]
    cases f x with
    | false => rfl
    | true =>
     rw [zA.j23, if_neg (by decide), vaW hy l _ fun z hz => h z (qr _ hz), uq]
  rw [if_neg hk, decide_eq_false hk]; rfl
theorem vbL {self : GTree → Option Bool} {f : GTree → Bool} : ∀ (l : List GEntry) (i last : Int), (∀ e ∈ l, ∀ x ∈ e.fTrees, self x = some (f x)) → zA.l6 self l i last = some (entB f last l)
 | [], i, last, _ => rfl
 | e :: l, i, last, h => by
  rw [zA.l6, entB]
  by_cases hc : last < e.fTag ∧ e.fTag ≤ 500 ∧ 1 ≤ e.fTrees.length ∧ e.fTrees.length ≤ 64
  · rw [if_neg (by simp only [qM, decide_eq_true_eq]; omega), vaW hc.2.2.1 e.fTrees 0 (h e (qp ..)), decide_eq_true hc, uq]
    cases ha : e.fTrees.all fun x => decide (x.fKind = (e.fTrees.headD Yt).fKind) && f x with
    | false => rfl
    | true => rw [if_pos rfl, vbL l _ _ fun y hy => h y (qr _ hy), uq]
  rw [if_pos (by simp only [qM, decide_eq_true_eq]; omega), decide_eq_false hc]; rfl
theorem rright_eq : ∀ (d m k : Nat) (t : GTree), d < m → Xi m t ≤ d → 2 * d < k → szT d t → yN k t = some (wo d t)
 | d, m, 0, t, _, _, h, _ => by omega
 | 0, m + 1, k + 1, t, _, hd, _, hz => by
  have h3 : ¬ t.fKind = 3 := by
   intro h; rw [Xi, if_pos h] at hd; omega
  rw [yN, yN.body, wo, leafB, if_neg h3]
  split <;> first | rfl | (split <;> rfl)
 | d + 1, m + 1, k + 1, t, hm, hd, hk, hz => by
  rw [yN, yN.body, wo]
  by_cases h3 : t.fKind = 3
  · have hd' : maxD (Xi m) (kids t) 0 ≤ d := by rw [Xi, if_pos h3] at hd; omega
    obtain ⟨k', rfl⟩ : ∃ k', k = k' + 1 := ⟨k - 1, by omega⟩
    have he : zA (k' + 1) t.fEntries = some (entB (wo d) 0 t.fEntries) := by
     rw [zA, zA.body]
     exact vbL t.fEntries 0 0 fun e he x hx => rright_eq d m k' x (by omega) (ur (maxD_mem (ZR he hx)) hd') (by omega) (hz.2 x (ZR he hx))
    have hr : yL t = some (restB t) := rrest_l4 (by have := hz.1.2.1; omega) _ _;rw [if_neg (by omega), if_neg (by omega), if_pos h3, if_pos h3, he, hr]
    cases decide (t.fN = 0) && decide (t.fS = []) with
    | false => rfl
    | true => cases entB (wo d) 0 t.fEntries <;> rfl
  rw [if_neg h3, if_neg h3, leafB]
  split <;> first | rfl | (split <;> rfl)
theorem ref09_Check_eq {t : GTree} (hz : szT 10 t) : wF t = some (ZU t) := by
 rw [wF, ref09_Depth_eq, qg, ZU]
 by_cases h : Xi 101 t ≤ 10
 · rw [if_pos (by omega), rright_eq 10 101 rounds t (by omega) h (by have := yH; omega) hz, decide_eq_true h, uq]; rfl
 rw [if_neg (by omega), decide_eq_false h]; rfl
end
section
set_option maxRecDepth 4000
open AM
theorem rraws_l22 {selfE : GTree → Option (List UInt8 × Int)} {enc : GTree → Option (List UInt8)} {x4 : Int} {rec8 : Int → List GRaw → Option (List GRaw × Int)} {y : GEntry} : ∀ (l : List GTree) (i : Int) (acc : List GRaw), (∀ x ∈ l, (x.fKind = 1 ∨ x.fKind = 2 ∨ x.fKind = 3) ∧ (x.fKind = 3 → selfE x = some (vaa (enc x)) ∧ ∀ b, enc x = some b → b.length ≤ 4096)) → acc.length + l.length < 3000000 →
 zR.l22 selfE x4 rec8 y l i acc = YI (rawL enc y.fTag l) fun m => rec8 (x4 + 1) (acc ++ m)
 | [], i, acc, _, _ => by rw [zR.l22, rawL, YI, qy]
 | x :: l, i, acc, h, hl => by
  rw [qj] at hl;have hx := h x (qp ..)
  have go : ∀ r : GRaw, rawT enc y.fTag x = some r → r.fB.length ≤ 4096 → zR.j37 i acc (zR.l22 selfE x4 rec8 y l) r = YI (rawL enc y.fTag (x :: l)) fun m => rec8 (x4 + 1) (acc ++ m) := by
   intro r hr hb
   rw [zR.j37, if_neg (by omega), xF (by omega), qg, rraws_l22 l _ _ (fun z hz => h z (qr _ hz)) (by rw [qi, qF]; omega), rawL, hr, qg]
   cases rawL enc y.fTag l with
   | none => rfl
   | some m => simp only [YI, qg, qq, qE, qA]
  rw [zR.l22]
  by_cases h1 : x.fKind = 1
  · rw [if_pos h1];exact go _ (by rw [rawT, if_pos h1]) (uk _)
  rw [if_neg h1]
  by_cases h2 : x.fKind = 2
  · rw [if_pos h2]
    by_cases hb : 4096 < x.fS.length
    · rw [zR.j37, if_pos (by dsimp only; omega), rawL, rawT, if_neg h1, if_pos h2, if_pos hb]; rfl
    exact go _ (by rw [rawT, if_neg h1, if_pos h2, if_neg hb]) (by dsimp only; omega)
  rw [if_neg h2];obtain ⟨he, hl4⟩ := hx.2 (by rcases hx.1 with h | h | h <;> omega);rw [he, qg]
  cases hx' : enc x with
  | none => rw [rawL, rawT, if_neg h1, if_neg h2, hx']; rfl
  | some b =>
   rw [vaa]; dsimp only
   rw [if_pos rfl];exact go _ (by rw [rawT, if_neg h1, if_neg h2, hx', qg]) (hl4 b hx')
theorem rraws_l8 {selfE : GTree → Option (List UInt8 × Int)} {enc : GTree → Option (List UInt8)} {t : GTree} (hr : t.fRest.length ≤ 900000) : ∀ (l : List GEntry) (i : Int) (acc : List GRaw), (∀ e ∈ l, e.fTrees.length ≤ 64 ∧ ∀ x ∈ e.fTrees, (x.fKind = 1 ∨ x.fKind = 2 ∨ x.fKind = 3) ∧ (x.fKind = 3 → selfE x = some (vaa (enc x)) ∧ ∀ b, enc x = some b → b.length ≤ 4096)) → acc.length + 64 * l.length ≤ 64000 →
 zR.l8 selfE t l i acc = YI (rawE enc l) fun m => some (srt ((acc ++ m) ++ t.fRest), 0)
 | [], i, acc, _, hl => by
  rw [zR.l8, xF (by simp only [ql] at hl; omega), qg, vbN (by rw [qi]; simp only [ql] at hl; omega), rawE, YI, qy]; rfl
 | e :: l, i, acc, h, hl => by
  rw [qj] at hl;have he := h e (qp ..);rw [zR.l8, rraws_l22 e.fTrees 0 acc he.2 (by omega), rawE]
  cases hL : rawL enc e.fTag e.fTrees with
  | none => rfl
  | some m =>
   have hm := rawL_len hL;rw [YI, rraws_l8 hr l _ _ (fun z hz => h z (qr _ hz)) (by rw [qi]; omega), qg]
   cases rawE enc l with
   | none => rfl
   | some m' => simp only [YI, qg, qq]
theorem vbZ {l : List GRaw} {t : Int} (h : ∀ r ∈ l, r.fTag ≠ t) : l.filter (fun x => x.fTag = t) = [] := by
 rw [List.filter_eq_nil_iff]
 intro r hr
 simpa using h r hr
theorem srt_swap {l m : List GRaw} (h : ∀ a ∈ l, ∀ b ∈ m, a.fTag ≠ b.fTag) : srt (l ++ m) = srt (m ++ l) := by
 refine srt_of (vaz _) fun t => ?_
 rw [vaA, List.filter_append, List.filter_append]
 by_cases hl : ∃ a ∈ l, a.fTag = t
 · obtain ⟨a, ha, rfl⟩ := hl;rw [vbZ (l := m) (t := a.fTag) fun b hb hc => h a ha b hb hc.symm, qy, qA]
 rw [vbZ (l := l) (t := t) fun a ha hc => hl ⟨a, ha, hc⟩, qy, qA]
theorem rest_apart {d : Nat} {t : GTree} {L : List GRaw} (hr : wo (d + 1) t = true) (h3 : t.fKind = 3) (hz : szT (d + 1) t) (hL : rawE (Xl d) t.fEntries = some L) : ∀ a ∈ L, ∀ b ∈ t.fRest, a.fTag ≠ b.fTag := by
 obtain ⟨_, he, hb, _, _⟩ := XI hr h3
 intro a ha b hb' hc
 obtain ⟨_, e, hm, he'⟩ := rawE_ok (fun e hm => by
  have := Yd he e hm
  exact ⟨by omega, this.2.1, fun x hx => (szT_own (hz.2 x (ZR hm hx))).1⟩) hL a ha
 exact ((restB_mem hb).1 b hb').2 e hm (he'.symm.trans hc)
theorem rencode_eq : ∀ (d k : Nat) (t : GTree), 2 * d ≤ k → wo d t = true → t.fKind = 3 → szT d t → yJ k t = some (vaa (Xl d t))
 | 0, k, t, _, hr, h3, _ => by
  rcases Xw hr with h | h <;> omega
 | d + 1, k, t, hk, hr, h3, hz => by
  obtain ⟨k', rfl⟩ : ∃ k', k = k' + 2 := ⟨k - 2, by omega⟩
  obtain ⟨hl, he, hb, _, _⟩ := XI hr h3
  have hs : ∀ e ∈ t.fEntries, e.fTrees.length ≤ 64 ∧ ∀ x ∈ e.fTrees, (x.fKind = 1 ∨ x.fKind = 2 ∨ x.fKind = 3) ∧ (x.fKind = 3 → yJ k' x = some (vaa (Xl d x)) ∧ ∀ b, Xl d x = some b → b.length ≤ 4096) := by
   intro e hm
   have h1 := Yd he e hm;refine ⟨h1.2.2.2.1, fun x hx => ?_⟩;have hrx := (h1.2.2.2.2 x hx).2;exact ⟨XH hrx, fun hx3 => ⟨rencode_eq d k' x (by omega) hrx hx3 (hz.2 x (ZR hm hx)), fun b => vb6⟩⟩
  rw [yJ, yJ.body, zR, zR.body, rraws_l8 (enc := Xl d) hz.1.2.1 t.fEntries 0 [] hs (by rw [ql]; omega), Xl]
  cases hL : rawE (Xl d) t.fEntries with
  | none => rfl
  | some L =>
   have hok := raws_ok hr h3 hz hL
   rw [YI, qg, qA, srt_swap (rest_apart hr h3 hz hL)]; dsimp only
   rw [if_pos rfl, vbP fun r hr => (hok r hr).2, XZ hok, qg, qg]
theorem vbM {t : GTree} (hz : szT 10 t) : wj t = some (if ZU t = true ∧ t.fKind = 3 then vaa (Xl 10 t) else ([], 1)) := by
 rw [wj, ref09_Check_eq hz]
 by_cases h3 : t.fKind = 3
 · rw [if_pos h3, qg, qg]
   by_cases hc : ZU t = true
   · rw [if_neg (by rw [hc]; decide), if_pos ⟨hc, h3⟩, rencode_eq 10 rounds t (by have := yH; omega) (X1 hc).1 h3 hz, qg]
   rw [if_pos (by simpa using hc), if_neg (fun h => hc h.1)]
 rw [if_neg h3, qg, if_pos rfl, if_neg (fun h => h3 h.2)]
end
section
set_option maxRecDepth 4000
open AM
theorem count_l (a : List UInt8) : ∀ (k p : Nat) (x : Int), 0 < k → a.length < p + k → ∃ v, yM.l9 a k p x = some v
 | 0, p, x, h0, hk => by omega
 | k + 1, p, x, _, hk => by
  have hd := Yr a p;rw [yM.l9]
  split
  · exact count_l a k _ _ (by omega) (by omega)
  exact ⟨_, rfl⟩
theorem count_t {a : List UInt8} (h : a.length ≤ 9223372036854775807) : ∃ v, yM a = some v := by
 rw [yM, runesV_eq h, qg]
 split
 · exact ⟨_, rfl⟩
 exact count_l a rounds 0 0 (by have := yH; omega) (by have := yH; omega)
theorem name_l (a : List UInt8) : ∀ (k p : Nat), 0 < k → a.length < p + k → ∃ v, yC.l11 a k p = some v
 | 0, p, h0, hk => by omega
 | k + 1, p, _, hk => by
  have hd := Yr a p;rw [yC.l11]
  split
  · obtain ⟨v, e⟩ := name_l a k (p + (Yz a p).2) (by omega) (by omega);rw [e];unfold bnd
    dsimp only
    repeat' split
    all_goals exact ⟨_, rfl⟩
  exact ⟨_, rfl⟩
def nameV (a : List UInt8) : Bool := (yC a).getD false
def nmOk (a : List UInt8) : Prop := a.length ≤ 140737488351232
theorem nameV_eq {a : List UInt8} (h : nmOk a) : yC a = some (nameV a) := by
 unfold nmOk at h
 have : ∃ v, yC a = some v := by
  obtain ⟨v, e⟩ := count_t (a := a) (by omega);rw [yC, e, qg];obtain ⟨w, ew⟩ := name_l a rounds 0 (by have := yH; omega) (by have := yH; omega);rw [ew];unfold bnd
  dsimp only
  repeat' split
  all_goals exact ⟨_, rfl⟩
 obtain ⟨v, e⟩ := this
 unfold nameV; rw [e]; rfl
theorem vbB {m : List (List UInt8 × Bool)} {a : List UInt8} (h : nmOk a) : ∃ r, yk m a = some r := by
 rw [yk, nameV_eq h, qg]
 split <;> exact ⟨_, rfl⟩
def nmM (m : GMessage) : Prop := nmOk m.fName ∧ ∀ f ∈ m.fFields, nmOk f.fName
def nmE (e : GEnumeration) : Prop := nmOk e.fName ∧ ∀ v ∈ e.fValues, nmOk v.fName
def nmS (s : GSchema) : Prop := nmOk s.fName ∧ (∀ m ∈ s.fMessages, nmM m) ∧ (∀ e ∈ s.fEnums, nmE e) ∧ ∀ x ∈ s.fMethods, nmOk x.fName
theorem msg_l21 {s : GSchema} {r2 : Bool × List (List UInt8 × Bool)} : ∀ (l : List GField) (i : Int) (a : List (Int × Bool)) (b : List (List UInt8 × Bool)), (∀ f ∈ l, nmOk f.fName) → ∃ r, zG.l21 s r2 l i a b = some r
 | [], i, a, b, _ => ⟨_, rfl⟩
 | f :: l, i, a, b, h => by
  obtain ⟨r, e⟩ := vbB (m := b) (h f (qp ..));rw [zG.l21, e, qg]
  split
  · exact ⟨_, rfl⟩
  unfold bnd
  dsimp only
  split
  · exact ⟨_, rfl⟩
  split
  · exact ⟨_, rfl⟩
  exact msg_l21 l _ _ _ fun g hg => h g (qr _ hg)
theorem msg_l12 {s : GSchema} {m : GMessage} {r2 : Bool × List (List UInt8 × Bool)} (hm : ∀ f ∈ m.fFields, nmOk f.fName) : ∀ (l : List Int) (i : Int) (a : List (Int × Bool)), ∃ r, zG.l12 s m r2 l i a = some r
 | [], i, a => msg_l21 _ _ _ _ hm
 | n :: l, i, a => by
  rw [zG.l12];unfold bnd
  dsimp only
  split
  · exact ⟨_, rfl⟩
  exact msg_l12 hm l _ _
theorem msg_t {s : GSchema} {a : List (List UInt8 × Bool)} {m : GMessage} (hm : nmM m) : ∃ r, zG s a m = some r := by
 obtain ⟨r, e⟩ := vbB (m := a) hm.1;rw [zG, e, qg]
 split
 · exact ⟨_, rfl⟩
 split
 · exact ⟨_, rfl⟩
 exact msg_l12 hm.2 _ _ _
theorem enum_l23 {r2 : Bool × List (List UInt8 × Bool)} : ∀ (l : List GNamed) (i : Int) (a : List (List UInt8 × Bool)) (b : List (Int × Bool)), (∀ f ∈ l, nmOk f.fName) → ∃ r, yu.l23 r2 l i a b = some r
 | [], i, a, b, _ => ⟨_, rfl⟩
 | f :: l, i, a, b, h => by
  obtain ⟨r, e⟩ := vbB (m := a) (h f (qp ..));rw [yu.l23, e, qg]
  split
  · exact ⟨_, rfl⟩
  split
  · exact ⟨_, rfl⟩
  exact enum_l23 l _ _ _ fun g hg => h g (qr _ hg)
theorem enum_l12 {x : GEnumeration} {r2 : Bool × List (List UInt8 × Bool)} (hx : ∀ v ∈ x.fValues, nmOk v.fName) : ∀ (l : List GNamed) (i : Int) (z : Bool), ∃ r, yu.l12 x r2 l i z = some r
 | [], i, z => by
  rw [yu.l12]
  split
  · exact ⟨_, rfl⟩
  exact enum_l23 _ _ _ _ hx
 | v :: l, i, z => by rw [yu.l12]; exact enum_l12 hx l _ _
theorem enum_t {a : List (List UInt8 × Bool)} {x : GEnumeration} (hx : nmE x) : ∃ r, yu a x = some r := by
 obtain ⟨r, e⟩ := vbB (m := a) hx.1;rw [yu, e, qg]
 split
 · exact ⟨_, rfl⟩
 split
 · exact ⟨_, rfl⟩
 exact enum_l12 hx.2 _ _ _
theorem chk_l29 {s : GSchema} : ∀ (l : List GMethod) (i : Int) (a : List (List UInt8 × Bool)), (∀ x ∈ l, nmOk x.fName) → ∃ r, zm.l29 s l i a = some r
 | [], i, a, _ => ⟨_, rfl⟩
 | x :: l, i, a, h => by
  obtain ⟨r, e⟩ := vbB (m := a) (h x (qp ..));rw [zm.l29];unfold bnd
  dsimp only
  rw [e, qg]
  split
  · exact ⟨_, rfl⟩
  split
  · exact ⟨_, rfl⟩
  exact chk_l29 l _ _ fun g hg => h g (qr _ hg)
theorem chk_l22 {s : GSchema} (hs : ∀ x ∈ s.fMethods, nmOk x.fName) : ∀ (l : List GEnumeration) (i : Int) (a : List (List UInt8 × Bool)), (∀ x ∈ l, nmE x) → ∃ r, zm.l22 s l i a = some r
 | [], i, a, _ => chk_l29 _ _ _ hs
 | x :: l, i, a, h => by
  obtain ⟨r, e⟩ := enum_t (a := a) (h x (qp ..));rw [zm.l22, e, qg]
  split
  · exact chk_l22 hs l _ _ fun g hg => h g (qr _ hg)
  exact ⟨_, rfl⟩
theorem chk_l15 {s : GSchema} (hs : nmS s) : ∀ (l : List GMessage) (i : Int) (a : List (List UInt8 × Bool)), (∀ x ∈ l, nmM x) → ∃ r, zm.l15 s l i a = some r
 | [], i, a, _ => chk_l22 hs.2.2.2 _ _ _ hs.2.2.1
 | x :: l, i, a, h => by
  obtain ⟨r, e⟩ := msg_t (s := s) (a := a) (h x (qp ..));rw [zm.l15, e, qg]
  split
  · exact chk_l15 hs l _ _ fun g hg => h g (qr _ hg)
  exact ⟨_, rfl⟩
def chkV (s : GSchema) : Int := (zm s).getD 0
theorem chkV_eq {s : GSchema} (hs : nmS s) : zm s = some (chkV s) := by
 have : ∃ r, zm s = some r := by
  rw [zm, nameV_eq hs.1, qg]
  split
  · exact ⟨_, rfl⟩
  split
  · exact ⟨_, rfl⟩
  split
  · exact ⟨_, rfl⟩
  exact chk_l15 hs _ _ _ hs.2.1
 obtain ⟨v, e⟩ := this
 unfold chkV; rw [e]; rfl
end
section
set_option maxRecDepth 4000
open AM
inductive Shuf : List GRaw → List GRaw → Prop
 | refl (l : List GRaw) : Shuf l l
 | cons (a : GRaw) {l m : List GRaw} : Shuf l m → Shuf (a :: l) (a :: m)
 | swap {a b : GRaw} (h : a.fTag ≠ b.fTag) (l : List GRaw) : Shuf (a :: b :: l) (b :: a :: l)
 | trans {l m n : List GRaw} : Shuf l m → Shuf m n → Shuf l n
theorem shuf_move {r : GRaw} : ∀ {B : List GRaw}, (∀ b ∈ B, b.fTag ≠ r.fTag) → Shuf (B ++ [r]) (r :: B)
 | [], _ => .refl _
 | b :: B, h => .trans (.cons b (shuf_move fun x hx => h x (qr _ hx))) (.swap (h b (qp ..)) B)
theorem shuf_ins {r : GRaw} : ∀ {l : List GRaw}, l.Pairwise TagLe → Shuf (l ++ [r]) (va0 r l)
 | [], _ => .refl _
 | x :: l, h => by
  rw [va0];rw [um] at h
  split
  · rename_i hlt
    refine shuf_move fun b hb => ?_
    rcases qK.1 hb with rfl | hb
    · omega
    have := h.1 b hb; unfold TagLe at this; omega
  exact .cons x (shuf_ins h.2)
theorem Shuf.app {l m : List GRaw} (h : Shuf l m) (k : List GRaw) : Shuf (l ++ k) (m ++ k) := by
 induction h with
 | refl l => exact .refl _
 | cons a _ ih => exact .cons a ih
 | swap h l => exact .swap h _
 | trans _ _ h1 h2 => exact .trans h1 h2
theorem shuf_srtA : ∀ {l S : List GRaw}, S.Pairwise TagLe → Shuf (S ++ l) (srtA l S)
 | [], S, _ => by rw [srtA, qy]; exact .refl _
 | r :: l, S, h => by
  rw [srtA, show S ++ r :: l = (S ++ [r]) ++ l by rw [qq]; rfl];exact .trans ((shuf_ins h).app l) (shuf_srtA (ZH h))
theorem shuf_srt (l : List GRaw) : Shuf l (srt l) := shuf_srtA (S := []) List.Pairwise.nil
theorem vbY {m : GMessage} {one : GType → GRaw → GTree × Int} : ∀ {l : List GRaw} {es : List GEntry} {rest rest' : List GRaw}, (∀ k, srt (rest ++ k) = srt (rest' ++ k)) → XT m one l es rest = XT m one l es rest'
 | [], es, rest, rest', h => by
  have := h [];rw [qy, qy] at this;rw [XT, XT, this]
 | r :: l, es, rest, rest', h => by
  rw [XT, XT]
  have h2 := vbY (m := m) (one := one) (l := l) (es := es) (rest := rest ++ [r]) (rest' := rest' ++ [r]) fun k => by rw [qq, qq]; exact h _
  have h1 := vbY (m := m) (one := one) (l := l) (es := Ya r.fTag ((zi m r.fTag).1.fLabel = 3) (one (zi m r.fTag).1.fType r).1 es) h;rw [h1, h2]
theorem putE_comm {s t : Int} (hst : s ≠ t) {p q : Prop} [Decidable p] [Decidable q] {x y : GTree} : ∀ {es : List GEntry}, Ya s p x (Ya t q y es) = Ya t q y (Ya s p x es)
 | [] => by
  by_cases h : s < t
  · simp only [reduceIte, Ya, wq, (show ¬ t < s by omega), (show ¬ t = s by omega), h]
  simp only [reduceIte, Ya, wq, (show t < s by omega), (show ¬ s < t by omega), hst]
 | e :: es => by
  have ih := putE_comm hst (p := p) (q := q) (x := x) (y := y) (es := es)
  rcases Int.lt_or_gt_of_ne hst with h | h
  · by_cases a : e.fTag < s
    · simp only [reduceIte, Ya, a, (show e.fTag < t by omega), ih]
    by_cases a' : e.fTag = s
    · simp only [reduceIte, Ya, a, a', h, wq, (show ¬ s < s by omega)]
    by_cases b : e.fTag < t
    · simp only [reduceIte, Ya, a, a', b, wq, h]
    by_cases b' : e.fTag = t
    · simp only [reduceIte, Ya, b', (show ¬ t < s by omega), (show ¬ t = s by omega), (show ¬ t < t by omega), wq, h]
    simp only [reduceIte, Ya, a, a', b, b', wq, h, (show ¬ t < s by omega), (show ¬ t = s by omega)]
  have h' : t < s := h
  by_cases a : e.fTag < t
  · simp only [reduceIte, Ya, a, (show e.fTag < s by omega), ih]
  by_cases a' : e.fTag = t
  · simp only [reduceIte, Ya, a, a', h', wq, (show ¬ t < t by omega)]
  by_cases b : e.fTag < s
  · simp only [reduceIte, Ya, a, a', b, wq, h']
  by_cases b' : e.fTag = s
  · simp only [reduceIte, Ya, b', (show ¬ s < t by omega), hst, (show ¬ s < s by omega), wq, h']
  simp only [reduceIte, Ya, a, a', b, b', wq, h', (show ¬ s < t by omega), hst]
theorem vaE {s t : Int} (hst : s ≠ t) {p q : Prop} [Decidable p] [Decidable q] {y : GTree} : ∀ {es : List GEntry}, vaF s p (Ya t q y es) = vaF s p es
 | [] => by
  by_cases h : s < t
  · simp only [reduceIte, Ya, vaF, wq, (show ¬ t < s by omega), (show ¬ t = s by omega)]
  simp only [reduceIte, Ya, vaF, wq, (show t < s by omega)]
 | e :: es => by
  have ih := vaE hst (p := p) (q := q) (y := y) (es := es)
  by_cases a : e.fTag < t
  · simp only [reduceIte, Ya, vaF, a, ih]
  by_cases a' : e.fTag = t
  · by_cases b : t < s
    · simp only [reduceIte, Ya, vaF, a, a', wq, b, (show ¬ t < t by omega)]
    simp only [reduceIte, Ya, vaF, a, a', wq, b, (show ¬ t < t by omega), (show ¬ t = s by omega)]
  by_cases b : t < s
  · simp only [reduceIte, Ya, vaF, a, a', wq, b]
  simp only [reduceIte, Ya, vaF, a, a', wq, b, (show ¬ t = s by omega), (show ¬ e.fTag < s by omega), (show ¬ e.fTag = s by omega)]
theorem fldD_swap {m : GMessage} {one : GType → GRaw → GTree × Int} {a b : GRaw} (hab : a.fTag ≠ b.fTag) {l : List GRaw} {es : List GEntry} {rest : List GRaw} (h0 : (XT m one (a :: b :: l) es rest).2 = 0) : XT m one (b :: a :: l) es rest = XT m one (a :: b :: l) es rest := by
 have h4 : ¬ ((Yt, (4 : Int)).2 = 0) := by decide
 have nab := fun (x : GTree) (es : List GEntry) => vaE (Ne.symm hab) (p := (zi m b.fTag).1.fLabel = 3) (q := (zi m a.fTag).1.fLabel = 3) (y := x) (es := es)
 have nba := fun (x : GTree) (es : List GEntry) => vaE hab (p := (zi m a.fTag).1.fLabel = 3) (q := (zi m b.fTag).1.fLabel = 3) (y := x) (es := es)
 simp only [XT, nab, nba] at h0 ⊢
 by_cases ka : (zi m a.fTag).2 = true
 · by_cases oa : (one (zi m a.fTag).1.fType a).2 = 0
   · by_cases na : vaF a.fTag ((zi m a.fTag).1.fLabel = 3) es ≤ 64
     · by_cases kb : (zi m b.fTag).2 = true
       · by_cases ob : (one (zi m b.fTag).1.fType b).2 = 0
         · by_cases nb : vaF b.fTag ((zi m b.fTag).1.fLabel = 3) es ≤ 64
           · simp only [ka, oa, na, kb, ob, nb, reduceIte];rw [putE_comm hab]
           simp only [ka, oa, na, kb, ob, nb, reduceIte] at h0; exact absurd h0 h4
         simp only [ka, oa, na, kb, ob, reduceIte] at h0
       simp only [ka, oa, na, kb, reduceIte, q1]
     simp only [ka, oa, na, reduceIte] at h0; exact absurd h0 h4
   simp only [ka, oa, reduceIte] at h0
 by_cases kb : (zi m b.fTag).2 = true
 · by_cases ob : (one (zi m b.fTag).1.fType b).2 = 0
   · by_cases nb : vaF b.fTag ((zi m b.fTag).1.fLabel = 3) es ≤ 64
     · simp only [ka, kb, ob, nb, reduceIte, q1]
     simp only [ka, kb, ob, nb, reduceIte, q1] at h0; exact absurd h0 h4
   simp only [ka, kb, ob, reduceIte, q1] at h0
 simp only [ka, kb, reduceIte, q1]
 refine vbY fun k => srt_of (vaz _) fun t => ?_
 rw [vaA];simp only [List.filter_append, qq]
 congr 1
 rw [← qq, ← qq]
 congr 1
 simp only [uB, List.filter_nil, decide_eq_true_eq]
 by_cases h1 : a.fTag = t
 · rw [if_pos h1, if_neg (show ¬ b.fTag = t by omega)]; rfl
 rw [if_neg h1]; simp
theorem fldD_shuf {m : GMessage} {one : GType → GRaw → GTree × Int} {l k : List GRaw} (h : Shuf l k) : ∀ {es : List GEntry} {rest : List GRaw}, (XT m one l es rest).2 = 0 → XT m one k es rest = XT m one l es rest := by
 induction h with
 | refl l => intros; rfl
 | cons a _ ih =>
  intro es rest h0
  simp only [XT] at h0 ⊢
  by_cases ka : (zi m a.fTag).2 = true
  · rw [if_pos ka] at h0 ⊢;rw [if_pos ka]
    by_cases oa : (one (zi m a.fTag).1.fType a).2 = 0
    · rw [if_pos oa] at h0 ⊢;rw [if_pos oa]
      by_cases na : vaF a.fTag ((zi m a.fTag).1.fLabel = 3) es ≤ 64
      · rw [if_pos na] at h0 ⊢
        rw [if_pos na]; exact ih h0
      rw [if_neg na, if_neg na]
    rw [if_neg oa, if_neg oa]
  rw [if_neg ka] at h0 ⊢
  rw [if_neg ka]; exact ih h0
 | swap h l => intro es rest h0; exact fldD_swap h h0
 | trans _ _ h1 h2 =>
  intro es rest h0
  have e := h1 h0;rw [h2 (by rw [e]; exact h0), e]
end
section
set_option maxRecDepth 4000
open AM
theorem getD_of {l : List GRaw} (h : ∀ r ∈ l, Yu r) (hb : (Zv l).length ≤ 4096) : getD (Zv l) = (l, 0) := by
 unfold getD; rw [wire_Get_ok h hb]; rfl
def okV (f : GMessage → GTree → Prop) (s : GSchema) (y : GType) (x : GTree) : Prop :=
 if y.fKind = 7 then x.fKind = 3 ∧ f (va9 s y.fName) x
 else if y.fKind = 4 ∨ y.fKind = 5 then x = ⟨2, 0, x.fS, [], []⟩ ∧ x.fS.length ≤ 4096 ∧ (y.fKind = 4 → vbF x.fS = true)
 else x = ⟨1, x.fN, [], [], []⟩ ∧ In64 x.fN ∧ (y.fKind = 3 ∨ y.fKind = 6 → xC y x.fN = true)
def okN (f : GMessage → GTree → Prop) (s : GSchema) (m : GMessage) (e : GEntry) : Prop :=
 (1 ≤ e.fTag ∧ e.fTag ≤ 500) ∧ (zi m e.fTag).2 = true ∧ (1 ≤ e.fTrees.length ∧ e.fTrees.length ≤ 64) ∧ ((zi m e.fTag).1.fLabel ≠ 3 → e.fTrees.length = 1) ∧ ∀ x ∈ e.fTrees, okV f s (zi m e.fTag).1.fType x
def okT (s : GSchema) : Nat → GMessage → GTree → Prop
 | 0, _, _ => False
 | d + 1, m, t => t.fKind = 3 ∧ t.fN = 0 ∧ t.fS = [] ∧ t.fEntries.Pairwise YY ∧ (∀ e ∈ t.fEntries, okN (okT s d) s m e ∧ isZ m e = false) ∧ t.fRest.Pairwise TagLe ∧ t.fRest.length ≤ 4096 ∧ ∀ r ∈ t.fRest, Yu r ∧ (zi m r.fTag).2 ≠ true
def kindT (y : GType) : Int := if y.fKind = 7 then 3 else if y.fKind = 4 ∨ y.fKind = 5 then 2 else 1
theorem gt_kind (k n : Int) (s : List UInt8) (e : List GEntry) (r : List GRaw) : (GTree.mk k n s e r).fKind = k := rfl
theorem gt_n (k n : Int) (s : List UInt8) (e : List GEntry) (r : List GRaw) : (GTree.mk k n s e r).fN = n := rfl
theorem gt_s (k n : Int) (s : List UInt8) (e : List GEntry) (r : List GRaw) : (GTree.mk k n s e r).fS = s := rfl
theorem gt_rest (k n : Int) (s : List UInt8) (e : List GEntry) (r : List GRaw) : (GTree.mk k n s e r).fRest = r := rfl
theorem gt_eta (t : GTree) : t = ⟨t.fKind, t.fN, t.fS, t.fEntries, t.fRest⟩ := by cases t; rfl
theorem okV_kind {f : GMessage → GTree → Prop} {s : GSchema} {y : GType} {x : GTree} (h : okV f s y x) : x.fKind = kindT y := by
 unfold okV at h; unfold kindT
 by_cases h7 : y.fKind = 7
 · rw [if_pos h7] at h ⊢; exact h.1
 rw [if_neg h7] at h ⊢
 by_cases h4 : y.fKind = 4 ∨ y.fKind = 5
 · rw [if_pos h4] at h ⊢; rw [h.1]; rfl
 rw [if_neg h4] at h ⊢; rw [h.1]; rfl
theorem okV_leaf {f : GMessage → GTree → Prop} {s : GSchema} {y : GType} {x : GTree} (h : okV f s y x) (h7 : y.fKind ≠ 7) : x.fEntries = [] ∧ x.fRest = [] ∧ In64 x.fN ∧ leafB x = true ∧ x.fKind ≠ 3 := by
 unfold okV at h;rw [if_neg h7] at h
 split at h
 · rw [h.1];exact ⟨rfl, rfl, in0, rfl, by rw [gt_kind]; decide⟩
 refine ⟨by rw [h.1]; rfl, by rw [h.1]; rfl, h.2.1, ?_, by rw [h.1, gt_kind]; decide⟩
 rw [h.1]; rfl
theorem kids_nil {x : GTree} (h : x.fEntries = []) : kids x = [] := by unfold kids; rw [h]; rfl
theorem szT_leaf {x : GTree} (h1 : x.fEntries = []) (h2 : x.fRest = []) (h3 : In64 x.fN) : ∀ d, szT d x
 | 0 => ⟨h3, by rw [h2]; exact uk _, by rw [h2]; intro r hr; cases hr⟩
 | d + 1 => ⟨⟨h3, by rw [h2]; exact uk _, by rw [h2]; intro r hr; cases hr⟩, by rw [kids_nil h1]; intro x hx; cases hx⟩
theorem okT_sz {s : GSchema} : ∀ (d n : Nat) (m : GMessage) (t : GTree), d ≤ n → okT s d m t → szT n t
 | 0, _, _, _, _, h => h.elim
 | d + 1, 0, _, _, h, _ => absurd h (by omega)
 | d + 1, n + 1, m, t, hn, h => by
  obtain ⟨_, h0, _, _, he, _, hl, hr⟩ := h;refine ⟨⟨by rw [h0]; exact in0, by omega, fun r hm => (hr r hm).1.2⟩, fun x hx => ?_⟩;obtain ⟨e, hm, hxe⟩ := List.mem_flatMap.1 hx;have hv := (he e hm).1.2.2.2.2 x hxe
  by_cases h7 : (zi m e.fTag).1.fType.fKind = 7
  · unfold okV at hv; rw [if_pos h7] at hv
    exact okT_sz d n _ x (by omega) hv.2
  obtain ⟨a, b, c, _, _⟩ := okV_leaf hv h7;exact szT_leaf a b c n
theorem leafB_right {x : GTree} (h : leafB x = true) (h3 : x.fKind ≠ 3) : ∀ d, wo d x = true
 | 0 => h
 | d + 1 => by rw [wo, if_neg h3]; exact h
theorem okT_ents {d : Nat} {s : GSchema} {m : GMessage} {f : GTree → Bool} (hf : ∀ y x, okV (okT s d) s y x → f x = true) : ∀ {l : List GEntry} {last : Int}, l.Pairwise YY → (∀ e ∈ l, last < e.fTag) → (∀ e ∈ l, okN (okT s d) s m e) → entB f last l = true
 | [], _, _, _, _ => rfl
 | e :: l, last, hs, hlt, he => by
  rw [um] at hs;obtain ⟨⟨h1, h2⟩, h3, h4, h5, h6⟩ := he e (qp ..);rw [entB, okT_ents hf hs.2 (fun a ha => hs.1 a ha) fun a ha => he a (qr _ ha), qQ, qm, decide_eq_true_eq];refine ⟨⟨hlt e (qp ..), h2, h4.1, h4.2⟩, ub.2 fun x hx => ?_⟩;rw [qm, decide_eq_true_eq];refine ⟨?_, hf _ x (h6 x hx)⟩;rw [okV_kind (h6 x hx)]
  cases ht : e.fTrees with
  | nil => rw [ht] at hx; cases hx
  | cons a l => rw [List.headD_cons]; exact (okV_kind (h6 a (by rw [ht]; exact qp ..))).symm
theorem vbT {s : GSchema} : ∀ (d n : Nat) (m : GMessage) (t : GTree), d ≤ n → okT s d m t → wo n t = true
 | 0, _, _, _, _, h => h.elim
 | d + 1, 0, _, _, h, _ => absurd h (by omega)
 | d + 1, n + 1, m, t, hn, h => by
  obtain ⟨h3, h0, hS, hs, he, hrs, _, hr⟩ := h;rw [wo, if_pos h3]
  have e1 : entB (wo n) 0 t.fEntries = true := by
   refine okT_ents (m := m) (d := d) (s := s) ?_ hs (fun e hm => by have := (he e hm).1.1; omega) fun e hm => (he e hm).1
   intro y x hv
   by_cases h7 : y.fKind = 7
   · unfold okV at hv; rw [if_pos h7] at hv
     exact vbT d n _ x (by omega) hv.2
   obtain ⟨_, _, _, d1, e1⟩ := okV_leaf hv h7;exact leafB_right d1 e1 n
  have e2 : restB t = true := by
   unfold restB;rw [qm];refine ⟨ub.2 fun r hm => ?_, risB_iff.2 hrs⟩;obtain ⟨⟨a, _⟩, b⟩ := hr r hm;rw [a, uq, uE, List.any_eq_false]
   intro e hme hc
   rw [decide_eq_true_eq] at hc;exact b (by rw [← hc]; exact (he e hme).1.2.1)
  rw [e1, e2, decide_eq_true h0, decide_eq_true hS]; rfl
theorem okT_dep {s : GSchema} : ∀ (d n : Nat) (m : GMessage) (t : GTree), okT s d m t → Xi n t ≤ d
 | 0, _, _, _, h => h.elim
 | d + 1, 0, _, _, _ => uk _
 | d + 1, n + 1, m, t, h => by
  rw [Xi]
  split
  · refine Nat.succ_le_succ (vbU (uk _) fun x hx => ?_);obtain ⟨e, hm, hxe⟩ := List.mem_flatMap.1 hx;have hv := (h.2.2.2.2.1 e hm).1.2.2.2.2 x hxe
    by_cases h7 : (zi m e.fTag).1.fType.fKind = 7
    · unfold okV at hv; rw [if_pos h7] at hv
      exact okT_dep d n _ x hv.2
    obtain ⟨_, _, _, _, e1⟩ := okV_leaf hv h7
    cases n with
    | zero => exact uk _
    | succ n => rw [Xi, if_neg e1]; exact uk _
  exact uk _
theorem okT_check {s : GSchema} {d : Nat} {m : GMessage} {t : GTree} (hd : d ≤ 10) (h : okT s d m t) : ZU t = true := by
 have := okT_dep d 101 m t h;rw [ZU, decide_eq_true (by omega), uq];exact vbT d 10 m t hd h
theorem gr_wire (a b c : Int) (d : List UInt8) : (GRaw.mk a b c d).fWire = b := rfl
theorem gr_n (a b c : Int) (d : List UInt8) : (GRaw.mk a b c d).fN = c := rfl
theorem gr_b (a b c : Int) (d : List UInt8) : (GRaw.mk a b c d).fB = d := rfl
theorem rawT_tag {enc : GTree → Option (List UInt8)} {tag : Int} {x : GTree} {r : GRaw} (h : rawT enc tag x = some r) : r.fTag = tag := by
 unfold rawT at h
 split at h
 · cases h; rfl
 split at h
 · split at h
   · cases h
   cases h; rfl
 obtain ⟨b, hb, h⟩ := bind_some h
 cases h; rfl
theorem vbS {msg : GMessage → List UInt8 → GTree × Int} {s : GSchema} {y : GType} {r : GRaw} (h : (y.fKind = 4 ∨ y.fKind = 5 ∨ y.fKind = 7) ∧ r.fWire = 1 ∨ ¬ (y.fKind = 4 ∨ y.fKind = 5 ∨ y.fKind = 7) ∧ r.fWire = 0) :
 oneD msg s y r = (if y.fKind = 3 ∨ y.fKind = 6 then (if xC y r.fN = true then (⟨1, r.fN, [], [], []⟩, 0) else (Yt, 11))
 else if y.fKind = 4 then (if vbF r.fB = true then (⟨2, 0, r.fB, [], []⟩, 0) else (Yt, 9))
 else if y.fKind = 7 then msg (va9 s y.fName) r.fB
 else (if r.fWire = 1 then ⟨2, 0, r.fB, [], []⟩ else ⟨1, r.fN, [], [], []⟩, 0)) := by
 unfold oneD;refine if_pos ?_
 rcases h with ⟨h, h'⟩ | ⟨h, h'⟩
 · rw [if_pos h]; exact h'
 rw [if_neg h]; exact h'
theorem oneD_back {s : GSchema} {d : Nat} {y : GType} {x : GTree} {tag : Int} {q : GRaw} (ih : ∀ m t c, okT s d m t → Xl d t = some c → decM s d m c = (t, 0)) (hv : okV (okT s d) s y x) (hq : rawT (Xl d) tag x = some q) : oneD (decM s d) s y q = (x, 0) := by
 have hk := okV_kind hv
 unfold okV at hv; unfold rawT at hq; unfold kindT at hk
 by_cases h7 : y.fKind = 7
 · rw [if_pos h7] at hv hk;rw [if_neg (by omega), if_neg (by omega)] at hq;obtain ⟨c, hc, hq⟩ := bind_some hq;cases hq;rw [vbS (Or.inl ⟨Or.inr (Or.inr h7), rfl⟩), if_neg (by omega), if_neg (by omega), if_pos h7, gr_b];exact ih _ _ _ hv.2 hc
 rw [if_neg h7] at hv hk
 by_cases h4 : y.fKind = 4 ∨ y.fKind = 5
 · rw [if_pos h4] at hv hk;rw [if_neg (by omega), if_pos hk, if_neg (by omega)] at hq;cases hq;rw [vbS (Or.inl ⟨by rcases h4 with h | h; exact Or.inl h; exact Or.inr (Or.inl h), rfl⟩), if_neg (by omega), gr_b]
   by_cases h44 : y.fKind = 4
   · rw [if_pos h44, if_pos (hv.2.2 h44), ← hv.1]
   rw [if_neg h44, if_neg h7, gr_wire, if_pos rfl, ← hv.1]
 rw [if_neg h4] at hv hk;rw [if_pos hk] at hq;cases hq;rw [vbS (Or.inr ⟨by omega, rfl⟩)]
 by_cases h3 : y.fKind = 3 ∨ y.fKind = 6
 · rw [if_pos h3, gr_n, if_pos (hv.2.2 h3), ← hv.1]
 rw [if_neg h3, if_neg (by omega), if_neg h7, gr_wire, if_neg (by decide), gr_n, ← hv.1]
theorem fldD_unk {m : GMessage} {one : GType → GRaw → GTree × Int} {B : List GRaw} {es : List GEntry} : ∀ {A rest : List GRaw}, (∀ r ∈ A, (zi m r.fTag).2 ≠ true) → XT m one (A ++ B) es rest = XT m one B es (rest ++ A)
 | [], rest, _ => by rw [qy]; rfl
 | r :: A, rest, h => by
  rw [qE, XT, if_neg (h r (qp ..)), fldD_unk fun x hx => h x (qr _ hx), qq]; rfl
theorem fldD_more {m : GMessage} {one : GType → GRaw → GTree × Int} {enc : GTree → Option (List UInt8)} {tag : Int} {A : List GEntry} {M rest : List GRaw} (hk : (zi m tag).2 = true) (h3 : (zi m tag).1.fLabel = 3) (hA : ∀ a ∈ A, a.fTag < tag) : ∀ {l : List GTree} {ts : List GTree} {L : List GRaw}, ts.length + l.length ≤ 64 → (∀ x ∈ l, ∀ q, rawT enc tag x = some q → one (zi m tag).1.fType q = (x, 0)) → rawL enc tag l = some L → XT m one (L ++ M) (A ++ [⟨tag, ts⟩]) rest = XT m one M (A ++ [⟨tag, ts ++ l⟩]) rest
 | [], ts, L, _, _, h => by cases h; rw [qy]; rfl
 | x :: l, ts, L, hl, ho, h => by
  obtain ⟨q, hq, h⟩ := bind_some h;obtain ⟨L', hL, h⟩ := bind_some h;cases h;rw [qj] at hl
  have hn : ∀ rep : Prop, [Decidable rep] → rep → vaF tag rep (A ++ [⟨tag, ts⟩]) = ts.length + 1 := by
   intro rep _ hr
   rw [vbg hA, vaF, wq, if_neg (by omega), if_pos rfl, if_pos hr, w7]
  have he : ∀ rep : Prop, [Decidable rep] → rep → Ya tag rep x (A ++ [⟨tag, ts⟩]) = A ++ [⟨tag, ts ++ [x]⟩] := by
   intro rep _ hr
   rw [vbh hA, Ya, wq, if_neg (by omega), if_pos rfl, if_pos hr, w7]
  rw [qE, XT, rawT_tag hq, if_pos hk, ho x (qp ..) q hq, if_pos rfl, if_pos (by rw [hn _ h3]; omega), he _ h3, fldD_more hk h3 hA (by rw [qi, qF]; omega) (fun z hz => ho z (qr _ hz)) hL, qq]; rfl
theorem fldD_entry {m : GMessage} {one : GType → GRaw → GTree × Int} {enc : GTree → Option (List UInt8)} {e : GEntry} {A : List GEntry} {M rest L : List GRaw} (hk : (zi m e.fTag).2 = true) (h1 : 1 ≤ e.fTrees.length) (h64 : e.fTrees.length ≤ 64) (hl : (zi m e.fTag).1.fLabel ≠ 3 → e.fTrees.length = 1) (hA : ∀ a ∈ A, a.fTag < e.fTag) (ho : ∀ x ∈ e.fTrees, ∀ q, rawT enc e.fTag x = some q → one (zi m e.fTag).1.fType q = (x, 0)) (h : rawL enc e.fTag e.fTrees = some L) : XT m one (L ++ M) A rest = XT m one M (A ++ [e]) rest := by
 obtain ⟨tag, ts⟩ := e;rw [wq] at *;rw [w7] at *
 cases ts with
 | nil => exact absurd h1 (by decide)
 | cons x l =>
  obtain ⟨q, hq, h⟩ := bind_some h;obtain ⟨L', hL, h⟩ := bind_some h;cases h
  have hn : ∀ rep : Prop, [Decidable rep] → vaF tag rep A = 1 := by
   intro rep _
   have := vbg (rep := rep) (B := []) hA;rw [qy] at this
   rw [this]; rfl
  have he : ∀ rep : Prop, [Decidable rep] → Ya tag rep x A = A ++ [⟨tag, [x]⟩] := by
   intro rep _
   have := vbh (rep := rep) (x := x) (B := []) hA;rw [qy] at this
   rw [this]; rfl
  rw [qE, XT, rawT_tag hq, if_pos hk, ho x (qp ..) q hq, if_pos rfl, if_pos (by rw [hn]; decide), he]
  cases l with
  | nil => cases hL; rfl
  | cons y l =>
   have h3 : (zi m tag).1.fLabel = 3 := by
    by_cases h3 : (zi m tag).1.fLabel = 3
    · exact h3
    have := hl h3; rw [qj, qj] at this; omega
   have := fldD_more (m := m) (one := one) (enc := enc) (tag := tag) (A := A) (M := M) (rest := rest) hk h3 hA (l := y :: l) (ts := [x]) (L := L') (by rw [qj] at h64; rw [qF]; omega) (fun z hz => ho z (qr _ hz)) hL;exact this
theorem fldD_ents {d : Nat} {s : GSchema} {m : GMessage} {rest : List GRaw} (ih : ∀ m t c, okT s d m t → Xl d t = some c → decM s d m c = (t, 0)) : ∀ {B A : List GEntry} {L : List GRaw}, (A ++ B).Pairwise YY → (∀ e ∈ B, okN (okT s d) s m e) → rawE (Xl d) B = some L → XT m (oneD (decM s d) s) L A rest = (⟨3, 0, [], zdel m (A ++ B), srt rest⟩, 0)
 | [], A, L, _, _, h => by cases h; rw [XT, qy]
 | e :: B, A, L, hs, he, h => by
  obtain ⟨a, ha, h⟩ := bind_some h;obtain ⟨L', hL, h⟩ := bind_some h;cases h;obtain ⟨_, h2, h3, h4, h5⟩ := he e (qp ..)
  rw [fldD_entry (enc := Xl d) h2 h3.1 h3.2 h4 (fun x hx => (List.pairwise_append.1 hs).2.2 x hx e (qp ..)) (fun x hx q hq => oneD_back ih (h5 x hx) hq) ha, fldD_ents ih (A := A ++ [e]) (by rw [qq]; exact hs) (fun x hx => he x (qr _ hx)) hL, qq]; rfl
theorem zdel_id {m : GMessage} {es : List GEntry} (h : ∀ e ∈ es, isZ m e = false) : zdel m es = es := by
 unfold zdel;rw [List.filter_eq_self]
 intro e he
 rw [h e he]; rfl
theorem decM_back {s : GSchema} : ∀ (d : Nat) (m : GMessage) (t : GTree) (c : List UInt8), okT s d m t → Xl d t = some c → decM s d m c = (t, 0)
 | 0, _, _, _, h, _ => h.elim
 | d + 1, m, t, c, hok, h => by
  have hr := vbT (d + 1) (d + 1) m t (qu _) hok;have hz := okT_sz (d + 1) (d + 1) m t (qu _) hok;obtain ⟨h3, h0, hS, hs, he, hrs, hl, hrest⟩ := hok;rw [Xl] at h;obtain ⟨L, hL, h⟩ := bind_some h;obtain ⟨hc, hlen⟩ := putB_some h;have hg := getD_of (raws_ok hr h3 hz hL) (by rw [← hc]; exact hlen)
  have key : XT m (oneD (decM s d) s) (t.fRest ++ L) [] [] = (t, 0) := by
   rw [fldD_unk fun r hm => (hrest r hm).2, fldD_ents (decM_back d) (A := []) (B := t.fEntries) hs (fun e hm => (he e hm).1) hL, qA, qA, zdel_id (es := t.fEntries) fun e hm => (he e hm).2, srt_id hrs, ← h3, ← h0, ← hS, ← gt_eta]
  rw [decM, hc, hg, if_pos rfl, fldD_shuf (shuf_srt _) (by rw [key]), key]
end
section
set_option maxRecDepth 4000
open AM

end
section
set_option maxRecDepth 4000
open AM

end
section
set_option maxRecDepth 4000
open AM
theorem msgI_l21 {s : GSchema} {r2 : Bool × List (List UInt8 × Bool)} {z : List (List UInt8 × Bool)} : ∀ {l : List GField} {i : Int} {a : List (Int × Bool)} {b : List (List UInt8 × Bool)}, zG.l21 s r2 l i a b = some (0, z) → ∀ f ∈ l, 1 ≤ f.fType.fKind ∧ f.fType.fKind ≤ 7
 | [], _, _, _, _, f, hf => by cases hf
 | g :: l, i, a, b, h, f, hf => by
  rw [zG.l21] at h;obtain ⟨r, _, h⟩ := bind_some h
  split at h
  · cases h
  unfold bnd at h
  dsimp only at h
  split at h
  · cases h
  split at h
  · cases h
  rename_i hc
  rcases qK.1 hf with rfl | hf
  · rw [uE, Bool.not_eq_false] at hc;unfold xU at hc
    split at hc
    · omega
    split at hc
    · omega
    simp only [qm, decide_eq_true_eq] at hc
    omega
  exact msgI_l21 h f hf
theorem msgI_l12 {s : GSchema} {m : GMessage} {r2 : Bool × List (List UInt8 × Bool)} {z : List (List UInt8 × Bool)} : ∀ {l : List Int} {i : Int} {a : List (Int × Bool)}, zG.l12 s m r2 l i a = some (0, z) → ∀ f ∈ m.fFields, 1 ≤ f.fType.fKind ∧ f.fType.fKind ≤ 7
 | [], _, _, h => msgI_l21 h
 | n :: l, i, a, h => by
  rw [zG.l12] at h;unfold bnd at h
  dsimp only at h
  split at h
  · cases h
  exact msgI_l12 h
theorem msgI {s : GSchema} {a z : List (List UInt8 × Bool)} {m : GMessage} (h : zG s a m = some (0, z)) : ∀ f ∈ m.fFields, 1 ≤ f.fType.fKind ∧ f.fType.fKind ≤ 7 := by
 rw [zG] at h;obtain ⟨r, _, h⟩ := bind_some h
 split at h
 · cases h
 split at h
 · cases h
 exact msgI_l12 h
def kindsS (s : GSchema) : Prop := ∀ m ∈ s.fMessages, ∀ f ∈ m.fFields, 1 ≤ f.fType.fKind ∧ f.fType.fKind ≤ 7
theorem chkI_l15 {s : GSchema} : ∀ {l : List GMessage} {i : Int} {a : List (List UInt8 × Bool)}, zm.l15 s l i a = some 0 → ∀ m ∈ l, ∀ f ∈ m.fFields, 1 ≤ f.fType.fKind ∧ f.fType.fKind ≤ 7
 | [], _, _, _, m, hm => by cases hm
 | x :: l, i, a, h, m, hm => by
  rw [zm.l15] at h;obtain ⟨⟨v, z⟩, e, h⟩ := bind_some h
  dsimp only at h
  split at h
  · rename_i h0
    subst h0
    rcases qK.1 hm with rfl | hm
    · exact msgI e
    exact chkI_l15 h m hm
  rename_i h0
  exact absurd (Option.some.inj h) h0
theorem kindsS_of {s : GSchema} (h : zm s = some 0) : kindsS s := by
 rw [zm] at h;obtain ⟨r, _, h⟩ := bind_some h
 split at h
 · cases h
 split at h
 · cases h
 split at h
 · cases h
 exact chkI_l15 h
theorem msg_mem {n : List UInt8} : ∀ (l : List GMessage) (i : Int), ((zC.l4 n l i).1 ∈ l ∧ (zC.l4 n l i).2 = true) ∨ ((zC.l4 n l i).1.fFields = [] ∧ (zC.l4 n l i).2 = false)
 | [], i => Or.inr ⟨rfl, rfl⟩
 | m :: l, i => by
  rw [zC.l4]
  split
  · exact Or.inl ⟨qp .., rfl⟩
  rcases msg_mem (n := n) l (i + 1) with h | h
  · exact Or.inl ⟨qr _ h.1, h.2⟩
  exact Or.inr h
def kindsM (m : GMessage) : Prop := ∀ f ∈ m.fFields, 1 ≤ f.fType.fKind ∧ f.fType.fKind ≤ 7
theorem kinds_msg {s : GSchema} (h : kindsS s) (n : List UInt8) : kindsM (va9 s n) := by
 rcases msg_mem (n := n) s.fMessages 0 with e | e
 · exact h _ e.1
 intro f hf
 have : (va9 s n).fFields = [] := e.1
 rw [this] at hf; cases hf
end
section
set_option maxRecDepth 4000
open AM
def szS (s : GSchema) : Prop := nmS s ∧ s.fMessages.length * 64 ≤ 140737488351232 ∧ s.fEnums.length * 40 ≤ 140737488351232 ∧ s.fMethods.length * 48 ≤ 140737488351232 ∧ (∀ m ∈ s.fMessages, m.fFields.length * 56 ≤ 140737488351232 ∧ m.fReserved.length * 8 ≤ 140737488351232) ∧ ∀ e ∈ s.fEnums, e.fValues.length * 24 ≤ 140737488351232
theorem ge_eta (e : GEnumeration) : (⟨e.fName, e.fValues⟩ : GEnumeration) = e := rfl
theorem gm_eta (m : GMessage) : (⟨m.fName, m.fFields, m.fReserved⟩ : GMessage) = m := rfl
theorem schema_l19 {s : GSchema} {M : List GMessage} (hs : szS s) : ∀ (B A : List GEnumeration) (i : Int), s.fEnums = A ++ B → yf.l19 s M B i A = some ⟨s.fName, M, s.fEnums, s.fMethods⟩
 | [], A, i, h => by rw [yf.l19, h, qy]
 | e :: B, A, i, h => by
  have hl : s.fEnums.length = A.length + (B.length + 1) := by rw [h, qi, qj]
  have h1 := hs.2.2.1;have h2 := hs.2.2.2.2.2 e (by rw [h]; exact uo _ (qp ..));rw [yf.l19, xF (by omega), qg, xF (by omega), qg, ge_eta, schema_l19 hs B (A ++ [e]) _ (by rw [h, qq]; rfl)]
theorem schema_l10 {s : GSchema} (hs : szS s) : ∀ (B A : List GMessage) (i : Int), s.fMessages = A ++ B → yf.l10 s B i A = some s
 | [], A, i, h => by
  rw [yf.l10, schema_l19 hs s.fEnums [] 0 rfl];rw [qy] at h;rw [← h]
 | m :: B, A, i, h => by
  have hl : s.fMessages.length = A.length + (B.length + 1) := by rw [h, qi, qj]
  have h1 := hs.2.1;have h2 := hs.2.2.2.2.1 m (by rw [h]; exact uo _ (qp ..));rw [yf.l10, xF (by omega), qg, wv, xF (by omega), qg, qg, xF (by omega), qg, gm_eta, schema_l10 hs B (A ++ [m]) _ (by rw [h, qq]; rfl)]
theorem schema_eq {s : GSchema} (hs : szS s) : yf s = some s := by
 have := hs.2.2.2.1;rw [yf, xF (by omega), qg, schema_l10 hs s.fMessages [] 0 rfl]
theorem few_l25 {m : GMessage} {x2 x3 : Int} {rec6 : Int → Int → Option Bool} (hr : ∃ b, rec6 (IntKind.i64.wrap (x2 + (qb m.fName : Int))) (IntKind.i64.wrap (x3 + 1)) = some b) : ∀ (l : List GField) (i : Int), ∃ b, zJ.l25 x2 x3 rec6 m l i = some b
 | [], _ => by rw [zJ.l25]; exact hr
 | f :: l, i => by
  rw [zJ.l25]
  split
  · exact ⟨_, rfl⟩
  exact few_l25 hr l _
theorem few_l60 {x : Int} {rec43 : Int → Option Bool} (hr : ∃ b, rec43 (IntKind.i64.wrap (x + 1)) = some b) : ∀ (l : List GNamed) (i : Int), ∃ b, zJ.l60 x rec43 l i = some b
 | [], _ => by rw [zJ.l60]; exact hr
 | f :: l, i => by
  rw [zJ.l60]
  split
  · exact ⟨_, rfl⟩
  exact few_l60 hr l _
theorem YL {α : Type} {l : List α} {j : Nat} (h : j < l.length) : Zb l (j : Int) = some (l[j]'h) :=
 idx_t (by omega) (by rw [qV]; exact qX h)
theorem few_l78 {s : GSchema} {n : Int} : ∀ (k j : Nat), 20 < k + j → j ≤ 20 → ∃ b, zJ.l78 s n k (j : Int) = some b
 | 0, j, h, h' => by omega
 | k + 1, j, h, h' => by
  rw [zJ.l78]
  split
  · rename_i hc
    simp only [qm, decide_eq_true_eq] at hc;rw [YL (show j < s.fMethods.length by omega), qg]
    split
    · exact ⟨_, rfl⟩
    rw [yx (by omega) (by omega), show (j : Int) + 1 = ((j + 1 : Nat) : Int) by omega];exact few_l78 k (j + 1) (by omega) (by omega)
  exact ⟨_, rfl⟩
theorem few_l43 {s : GSchema} {n : Int} : ∀ (k j : Nat), 20 < k + j → j ≤ 20 → ∃ b, zJ.l43 s n k (j : Int) = some b
 | 0, j, h, h' => by omega
 | k + 1, j, h, h' => by
  rw [zJ.l43]
  split
  · rename_i hc
    simp only [qm, decide_eq_true_eq] at hc;rw [YL (show j < s.fEnums.length by omega), qg]
    split
    · exact ⟨_, rfl⟩
    refine few_l60 ?_ _ _;rw [yx (by omega) (by omega), show (j : Int) + 1 = ((j + 1 : Nat) : Int) by omega];exact few_l43 k (j + 1) (by omega) (by omega)
  exact few_l78 rounds 0 (by have := yH; omega) (by omega)
theorem few_l6 {s : GSchema} : ∀ (k j : Nat) (n : Int), 20 < k + j → j ≤ 20 → ∃ b, zJ.l6 s k n (j : Int) = some b
 | 0, j, n, h, h' => by omega
 | k + 1, j, n, h, h' => by
  rw [zJ.l6]
  split
  · rename_i hc
    simp only [qm, decide_eq_true_eq] at hc;rw [YL (show j < s.fMessages.length by omega), qg]
    split
    · exact ⟨_, rfl⟩
    refine few_l25 ?_ _ _;rw [yx (x := (j : Int) + 1) (by omega) (by omega), show (j : Int) + 1 = ((j + 1 : Nat) : Int) by omega];exact few_l6 k (j + 1) _ (by omega) (by omega)
  exact few_l43 rounds 0 (by have := yH; omega) (by omega)
theorem few_t (s : GSchema) : ∃ b, zJ s = some b := few_l6 rounds 0 _ (by have := yH; omega) (by omega)
end
section
set_option maxRecDepth 4000
open AM
def bt (a : List UInt8) (i : Nat) : Nat := (a.getD i 0).toNat
theorem bt_lt (a : List UInt8) (i : Nat) : bt a i < 256 := UInt8.toNat_lt _
theorem bt_get {a : List UInt8} {i : Nat} (h : i < a.length) : bt a i = (a[i]'h).toNat := by
 unfold bt; rw [qv, qX h]; rfl
theorem bt_drop (a : List UInt8) (p i : Nat) : bt (a.drop p) i = bt a (p + i) := by
 unfold bt; rw [qv, qv, List.getElem?_drop]
def decB (b : Nat → Nat) (n : Nat) : Nat × Nat :=
 if b 0 < 128 then (b 0, 1)
 else if b 0 / 32 = 6 ∧ (1 < n ∧ b 1 / 64 = 2) then
  (if 128 ≤ b 0 % 32 * 64 + b 1 % 64 then (b 0 % 32 * 64 + b 1 % 64, 2) else (65533, 1))
 else if b 0 / 16 = 14 ∧ (1 < n ∧ b 1 / 64 = 2) ∧ (2 < n ∧ b 2 / 64 = 2) then
  (if 2048 ≤ b 0 % 16 * 4096 + b 1 % 64 * 64 + b 2 % 64 ∧ Utf8.valid ((b 0 % 16 * 4096 + b 1 % 64 * 64 + b 2 % 64 : Nat) : Int) = true then (b 0 % 16 * 4096 + b 1 % 64 * 64 + b 2 % 64, 3) else (65533, 1))
 else if b 0 / 8 = 30 ∧ (1 < n ∧ b 1 / 64 = 2) ∧ (2 < n ∧ b 2 / 64 = 2) ∧ (3 < n ∧ b 3 / 64 = 2) then
  (if 65536 ≤ b 0 % 8 * 262144 + b 1 % 64 * 4096 + b 2 % 64 * 64 + b 3 % 64 ∧ Utf8.valid ((b 0 % 8 * 262144 + b 1 % 64 * 4096 + b 2 % 64 * 64 + b 3 % 64 : Nat) : Int) = true then (b 0 % 8 * 262144 + b 1 % 64 * 4096 + b 2 % 64 * 64 + b 3 % 64, 4) else (65533, 1))
 else (65533, 1)
theorem get_bt (a : List UInt8) (i : Nat) : (ByteArray.get! ⟨a.toArray⟩ i).toNat = bt a i := by
 unfold bt ByteArray.get!
 simp [qv, Array.getElem!_eq_getD]
 rfl
theorem decU_eq (a : List UInt8) (p : Nat) : Yz a p = decB (fun k => bt a (p + k)) (a.length - p) := by
 have hs : (⟨a.toArray⟩ : ByteArray).size = a.length := rfl
 have hc : ∀ k, (p + k < a.length) = (k < a.length - p) := fun k => by rw [eq_iff_iff]; omega
 unfold Yz Utf8.decode decB;simp only [get_bt, hs, hc, Utf8.runeError, qm, decide_eq_true_eq, beq_iff_eq, and_assoc, ge_iff_le]
theorem decU_drop (a : List UInt8) (p : Nat) : Yz (a.drop p) 0 = Yz a p := by
 rw [decU_eq, decU_eq, uJ];simp only [bt_drop, qn, uM]
theorem tail_eq {a : List UInt8} {i : Nat} : w4 a (i : Int) = some (if i < a.length ∧ bt a i / 64 = 2 then ((bt a i % 64 : Nat) : Int) else -1) := by
 have hb := bt_lt a i;rw [w4]
 by_cases h : i < a.length
 · rw [if_neg (by omega), YL h, qg, ← bt_get h]
   by_cases h1 : bt a i < 128
   · rw [decide_eq_true (by omega), qg, if_pos rfl, qg, if_pos rfl, if_neg (by omega)]
   rw [decide_eq_false (by omega), qg, if_neg (by decide), qg, ← bt_get h]
   by_cases h2 : 191 < bt a i
   · rw [decide_eq_true (by omega), qg, if_pos rfl, if_neg (by omega)]
   rw [decide_eq_false (by omega), qg, if_neg (by decide), qg, ← bt_get h, if_pos (by omega), yx (x := (bt a i : Int)) (by omega) (by omega), yx (by omega) (by omega)]
   congr 1; omega
 rw [if_pos (by omega), qg, if_pos rfl, qg, if_pos rfl, if_neg (by omega)]
theorem i32_in {x : Int} (h : 0 ≤ x) (h' : x < 2147483648) : IntKind.i32.wrap x = x := by rw [IntKind.wrap_i32]; omega
theorem l17_go {a : List UInt8} {p n least k v : Nat} (j j' : Nat) (hj' : j' = j + 1) (hj : j < n) (hp : p + j < 4611686018427387904) (hv : v < 1073741824) : yy.l17 a (p : Int) (n : Int) (least : Int) (k + 1) (v : Int) (j : Int) =
 if p + j < a.length ∧ bt a (p + j) / 64 = 2 then yy.l17 a (p : Int) (n : Int) (least : Int) k ((v * 64 + bt a (p + j) % 64 : Nat) : Int) (j' : Int) else some (0, 0, false) := by
 rw [yy.l17, if_pos (by omega), yx (x := (p : Int) + j) (by omega) (by omega), show (p : Int) + (j : Int) = ((p + j : Nat) : Int) by omega, tail_eq, qg]
 by_cases h : p + j < a.length ∧ bt a (p + j) / 64 = 2
 · rw [if_pos h, if_pos h, if_neg (by omega), yx (x := 64 * (v : Int)) (by omega) (by omega), yx (x := 64 * (v : Int) + _) (by omega) (by omega), yx (x := (j : Int) + 1) (by omega) (by omega), show 64 * (v : Int) + ((bt a (p + j) % 64 : Nat) : Int) = ((v * 64 + bt a (p + j) % 64 : Nat) : Int) by omega, show (j : Int) + 1 = (j' : Int) by omega]
 rw [if_neg h, if_neg h, if_pos (by omega)]
theorem l17_end {a : List UInt8} {p n least k v : Nat} : yy.l17 a (p : Int) (n : Int) (least : Int) (k + 1) (v : Int) (n : Int) = if v < least ∨ 1114111 < v ∨ (55296 ≤ v ∧ v ≤ 57343) then some (0, 0, false) else some ((v : Int), (n : Int), true) := by
 rw [yy.l17, if_neg (by omega)]
 by_cases h : v < least ∨ 1114111 < v ∨ (55296 ≤ v ∧ v ≤ 57343)
 · rw [if_pos h, if_pos (by simp only [qM, qm, decide_eq_true_eq]; omega)]
 rw [if_neg h, if_neg (by simp only [qM, qm, decide_eq_true_eq]; omega), i32_in (by omega) (by omega)]
theorem next_eq {a : List UInt8} {p : Nat} (hp : p < a.length) (hl : a.length < 2305843009213693952) : (yy a (p : Int) = some (0, 0, false) ∧ (Yz a p) = (65533, 1)) ∨
 ∃ c m : Nat, yy a (p : Int) = some ((c : Int), (m : Int), true) ∧ Yz a p = (c, m) ∧ 1 ≤ m ∧ m ≤ 4 ∧ (c = 65533 → 2 ≤ m) := by
 obtain ⟨K, hK⟩ : ∃ K, rounds = K + 5 := ⟨rounds - 5, by have := yH; omega⟩
 have h0 := bt_lt a p;have h1 := bt_lt a (p + 1);have h2 := bt_lt a (p + 2);have h3 := bt_lt a (p + 3)
 have hn : ∀ k, (k < a.length - p) = (p + k < a.length) := fun k => by rw [eq_iff_iff]; omega
 rw [decU_eq, decB];simp only [hn, uR];rw [yy, if_neg (by simp only [qM, decide_eq_true_eq]; omega), YL hp, qg, ← bt_get hp, yx (x := (bt a p : Int)) (by omega) (by omega)]
 by_cases c1 : bt a p < 128
 · right
   rw [if_pos c1, if_pos (by omega), i32_in (by omega) (by omega)];exact ⟨bt a p, 1, rfl, rfl, by omega, by omega, by omega⟩
 rw [if_neg c1, if_neg (by omega)]
 by_cases c2 : bt a p / 32 = 6
 · rw [if_pos (by simp only [qm, decide_eq_true_eq]; omega), yy.j11, hK, yx (by omega) (by omega), show ((bt a p : Nat) : Int) - 192 = ((bt a p % 32 : Nat) : Int) by omega, show (2 : Int) = ((2 : Nat) : Int) from rfl, show (128 : Int) = ((128 : Nat) : Int) from rfl, show (1 : Int) = ((1 : Nat) : Int) from rfl, l17_go 1 2 rfl (by omega) (by omega) (by omega)]
   by_cases d1 : p + 1 < a.length ∧ bt a (p + 1) / 64 = 2
   · rw [if_pos d1, if_pos ⟨c2, d1⟩, show K + 4 = (K + 3) + 1 from rfl, l17_end]
     by_cases e1 : 128 ≤ bt a p % 32 * 64 + bt a (p + 1) % 64
     · rw [if_neg (by omega), if_pos e1];exact Or.inr ⟨_, _, rfl, rfl, by omega, by omega, by omega⟩
     rw [if_pos (by omega), if_neg e1]; exact Or.inl ⟨rfl, rfl⟩
   rw [if_neg d1, if_neg (fun h => d1 h.2), if_neg (by omega), if_neg (by omega)];exact Or.inl ⟨rfl, rfl⟩
 rw [if_neg (by simp only [qm, decide_eq_true_eq]; omega), if_neg (show ¬ (bt a p / 32 = 6 ∧ _) from fun h => c2 h.1)]
 by_cases c3 : bt a p / 16 = 14
 · rw [if_pos (by simp only [qm, decide_eq_true_eq]; omega), yy.j11, hK, yx (by omega) (by omega), show ((bt a p : Nat) : Int) - 224 = ((bt a p % 16 : Nat) : Int) by omega, show (3 : Int) = ((3 : Nat) : Int) from rfl, show (2048 : Int) = ((2048 : Nat) : Int) from rfl, show (1 : Int) = ((1 : Nat) : Int) from rfl, l17_go 1 2 rfl (by omega) (by omega) (by omega)]
   by_cases d1 : p + 1 < a.length ∧ bt a (p + 1) / 64 = 2
   · rw [if_pos d1, show K + 4 = (K + 3) + 1 from rfl, l17_go 2 3 rfl (by omega) (by omega) (by omega)]
     by_cases d2 : p + 2 < a.length ∧ bt a (p + 2) / 64 = 2
     · rw [if_pos d2, if_pos ⟨c3, d1, d2⟩, show K + 3 = (K + 2) + 1 from rfl, l17_end]
       have ev : (bt a p % 16 * 64 + bt a (p + 1) % 64) * 64 + bt a (p + 2) % 64 = bt a p % 16 * 4096 + bt a (p + 1) % 64 * 64 + bt a (p + 2) % 64 := by omega
       rw [ev]
       by_cases e1 : 2048 ≤ bt a p % 16 * 4096 + bt a (p + 1) % 64 * 64 + bt a (p + 2) % 64 ∧ Utf8.valid ((bt a p % 16 * 4096 + bt a (p + 1) % 64 * 64 + bt a (p + 2) % 64 : Nat) : Int) = true
       · have e2 := e1.2;unfold Utf8.valid at e2;simp only [qM, qm, decide_eq_true_eq] at e2;rw [if_neg (by omega), if_pos e1];exact Or.inr ⟨_, _, rfl, rfl, by omega, by omega, by omega⟩
       have e2 := e1;unfold Utf8.valid at e2;simp only [qM, qm, decide_eq_true_eq] at e2
       rw [if_pos (by omega), if_neg e1]; exact Or.inl ⟨rfl, rfl⟩
     rw [if_neg d2, if_neg (fun h => d2 h.2.2), if_neg (by omega)];exact Or.inl ⟨rfl, rfl⟩
   rw [if_neg d1, if_neg (fun h => d1 h.2.1), if_neg (by omega)];exact Or.inl ⟨rfl, rfl⟩
 rw [if_neg (by simp only [qm, decide_eq_true_eq]; omega), if_neg (show ¬ (bt a p / 16 = 14 ∧ _) from fun h => c3 h.1)]
 by_cases c4 : bt a p / 8 = 30
 · rw [if_pos (by simp only [qm, decide_eq_true_eq]; omega), yy.j11, hK, yx (by omega) (by omega), show ((bt a p : Nat) : Int) - 240 = ((bt a p % 8 : Nat) : Int) by omega, show (4 : Int) = ((4 : Nat) : Int) from rfl, show (65536 : Int) = ((65536 : Nat) : Int) from rfl, show (1 : Int) = ((1 : Nat) : Int) from rfl, l17_go 1 2 rfl (by omega) (by omega) (by omega)]
   by_cases d1 : p + 1 < a.length ∧ bt a (p + 1) / 64 = 2
   · rw [if_pos d1, show K + 4 = (K + 3) + 1 from rfl, l17_go 2 3 rfl (by omega) (by omega) (by omega)]
     by_cases d2 : p + 2 < a.length ∧ bt a (p + 2) / 64 = 2
     · rw [if_pos d2, show K + 3 = (K + 2) + 1 from rfl, l17_go 3 4 rfl (by omega) (by omega) (by omega)]
       by_cases d3 : p + 3 < a.length ∧ bt a (p + 3) / 64 = 2
       · rw [if_pos d3, if_pos ⟨c4, d1, d2, d3⟩, show K + 2 = (K + 1) + 1 from rfl, l17_end]
         have ev : ((bt a p % 8 * 64 + bt a (p + 1) % 64) * 64 + bt a (p + 2) % 64) * 64 + bt a (p + 3) % 64 = bt a p % 8 * 262144 + bt a (p + 1) % 64 * 4096 + bt a (p + 2) % 64 * 64 + bt a (p + 3) % 64 := by omega
         rw [ev]
         by_cases e1 : 65536 ≤ bt a p % 8 * 262144 + bt a (p + 1) % 64 * 4096 + bt a (p + 2) % 64 * 64 + bt a (p + 3) % 64 ∧ Utf8.valid ((bt a p % 8 * 262144 + bt a (p + 1) % 64 * 4096 + bt a (p + 2) % 64 * 64 + bt a (p + 3) % 64 : Nat) : Int) = true
         · have e2 := e1.2;unfold Utf8.valid at e2;simp only [qM, qm, decide_eq_true_eq] at e2;rw [if_neg (by omega), if_pos e1];exact Or.inr ⟨_, _, rfl, rfl, by omega, by omega, by omega⟩
         have e2 := e1;unfold Utf8.valid at e2;simp only [qM, qm, decide_eq_true_eq] at e2
         rw [if_pos (by omega), if_neg e1]; exact Or.inl ⟨rfl, rfl⟩
       rw [if_neg d3, if_neg (fun h => d3 h.2.2.2)];exact Or.inl ⟨rfl, rfl⟩
     rw [if_neg d2, if_neg (fun h => d2 h.2.2.1)];exact Or.inl ⟨rfl, rfl⟩
   rw [if_neg d1, if_neg (fun h => d1 h.2.1)];exact Or.inl ⟨rfl, rfl⟩
 rw [if_neg (by simp only [qm, decide_eq_true_eq]; omega), if_neg (show ¬ (bt a p / 8 = 30 ∧ _) from fun h => c4 h.1)];exact Or.inl ⟨rfl, rfl⟩
end
section
set_option maxRecDepth 4000
open AM
def rl (a : List UInt8) : Nat → Nat → Option (List Nat)
 | 0, _ => none
 | k + 1, p => if p < a.length then (if Yz a p = (65533, 1) then none else (rl a k (p + (Yz a p).2)).map ((Yz a p).1 :: ·)) else some []
theorem rl_all {a : List UInt8} (hl : a.length ≤ 30000) : ∀ (k p : Nat) (l : List Int), a.length < p + k → 0 < k → p ≤ 40000 → l.length + (a.length - p) ≤ 40000 → wa.l8 a k l (p : Int) = some (match rl a k p with | some T => (l ++ T.map (fun c : Nat => (c : Int)), true) | none => ([], false))
 | 0, p, l, h, h0, _, _ => by omega
 | k + 1, p, l, h, _, hp, hll => by
  rw [wa.l8, rl]
  by_cases hpl : p < a.length
  · rw [if_pos (by omega), if_pos hpl]
    rcases next_eq hpl (by omega) with ⟨e, ed⟩ | ⟨c, m, e, ed, h1, h2, h3⟩
    · rw [e, qg, if_pos (by rfl), if_pos ed]
    rw [e, qg, if_neg (by simp), xF (by omega), qg, if_neg (fun h => by rw [ed] at h; simp only [Prod.mk.injEq] at h; have := h3 h.1; omega), ed]
    dsimp only
    rw [yx (by omega) (by omega), show (p : Int) + (m : Int) = ((p + m : Nat) : Int) by omega, rl_all hl k (p + m) _ (by omega) (by omega) (by omega) (by rw [qi, qF]; omega)]
    cases rl a k (p + m) with
    | none => rfl
    | some T => simp only [uz, qD, qq, qE, qA]
  rw [if_neg (by omega), if_neg hpl]; simp only [qw, qy]
theorem cut_drop {a : List UInt8} {p : Nat} (h : p < a.length) : YS a (p : Int) (a.length : Int) = a.drop p := by
 unfold YS;rw [qV, qV, ug (by rw [uJ]; omega)]
theorem rnext_eq {a : List UInt8} {p : Nat} (h : p < a.length) (hl : a.length ≤ 30000) : ∃ r, wr a (p : Int) = some r ∧ (r.2.2 = true ↔ Yz a p ≠ (65533, 1)) := by
 have hd : ZE (YS a (p : Int) (a.length : Int)) = (((Yz a p).1 : Int), ((Yz a p).2 : Int)) := by
  rw [cut_drop h, ZE, dec0, if_neg (fun hc => by have := congrArg qb hc; rw [uJ, ql] at this; omega), decU_drop]
 rw [wr, if_neg (by simp only [qM, decide_eq_true_eq]; omega), Y8 (by omega), qg, bnd, hd]
 rcases next_eq h (by omega) with ⟨_, ed⟩ | ⟨c, m, _, ed, h1, h2, h3⟩
 · rw [ed];refine ⟨_, by rw [if_pos (by simp)], ?_⟩
   simp
 rw [ed]
 have hne : ¬ ((c, m) = (65533, 1)) := fun hc => by simp only [Prod.mk.injEq] at hc; have := h3 hc.1; omega
 refine ⟨_, by rw [if_neg (by simp only [qm, decide_eq_true_eq]; omega)], ?_⟩
 simp [hne]
theorem rl_valid {a : List UInt8} (hl : a.length ≤ 30000) : ∀ (k p : Nat), a.length < p + k → 0 < k → yD.l4 a k p = some (rl a k p).isSome
 | 0, p, h, h0 => by omega
 | k + 1, p, h, _ => by
  rw [yD.l4, rl]
  by_cases hpl : p < a.length
  · rw [if_pos hpl, if_pos hpl];have hm := Yr a p;have ih := rl_valid hl k (p + (Yz a p).2) (by omega) (by omega)
    by_cases hb : Yz a p = (65533, 1)
    · obtain ⟨r, e, hr⟩ := rnext_eq hpl hl;rw [if_pos hb, if_pos (by rw [hb]; rfl), e, qg, if_pos]
      · rfl
      cases hv : r.2.2 with
      | true => exact absurd hb (hr.1 hv)
      | false => rfl
    rw [if_neg hb, Option.isSome_map]
    split
    · obtain ⟨r, e, hr⟩ := rnext_eq hpl hl;rw [e, qg, if_neg (by rw [hr.2 hb]; decide), ih]
    exact ih
  rw [if_neg hpl, if_neg hpl]; rfl
theorem rl_count {a : List UInt8} (hl : a.length ≤ 30000) : ∀ (k p : Nat) (x : Nat) (T : List Nat), x + (a.length - p) ≤ 40000 → rl a k p = some T → yM.l9 a k p (x : Int) = some ((x + T.length : Nat) : Int)
 | 0, p, x, T, _, h => by cases h
 | k + 1, p, x, T, hx, h => by
  rw [rl] at h;rw [yM.l9]
  by_cases hpl : p < a.length
  · have hm := Yr a p;rw [if_pos hpl] at h ⊢
    split at h
    · cases h
    obtain ⟨T', hT, rfl⟩ := Option.map_eq_some_iff.1 h;rw [yx (by omega) (by omega), show (x : Int) + 1 = ((x + 1 : Nat) : Int) by omega, rl_count hl k _ (x + 1) T' (by omega) hT, qj]
    congr 2; omega
  rw [if_neg hpl] at h ⊢
  cases h; rfl
def lod (c : Nat) : Bool := xp (c : Int) || we (c : Int)
theorem letter_eq (c : Int) : xf c = xp c := by
 rw [Bool.eq_iff_iff];unfold xf xf.j6 xp wx bnd
 by_cases h1 : c = 95
 · subst h1; decide
 by_cases h2 : c = 215
 · subst h2; decide
 by_cases h3 : c = 247
 · subst h3; decide
 by_cases h4 : c = 930
 · subst h4; decide
 simp only [h1, h2, h3, h4, if_false, decide_false, q1, Bool.ite_eq_true_distrib, qM, qm, decide_eq_true_eq, qz, and_true, or_false, ite_then_self]
 (repeat' split) <;> first | omega | simp_all | (simp_all; omega)
theorem digit_eq (c : Int) : wR c = we c := rfl
theorem key_eq (a : List UInt8) : xl a = xg a := rfl
theorem rl_name {a : List UInt8} : ∀ (k p : Nat) (T : List Nat), 0 < p → rl a k p = some T → yC.l11 a k p = some (T.all lod)
 | 0, p, T, _, h => by cases h
 | k + 1, p, T, h0, h => by
  rw [rl] at h;rw [yC.l11]
  by_cases hpl : p < a.length
  · have hm := Yr a p;rw [if_pos hpl] at h ⊢
    split at h
    · cases h
    obtain ⟨T', hT, rfl⟩ := Option.map_eq_some_iff.1 h;have ih := rl_name k _ T' (by omega) hT;rw [letter_eq, digit_eq, ih, qW, lod];unfold bnd
    dsimp only
    rw [if_neg (show ¬ ((p : Nat) : Int) = 0 by omega)]
    cases xp ((Yz a p).1 : Int) <;> cases we ((Yz a p).1 : Int) <;> rfl
  rw [if_neg hpl] at h ⊢
  cases h; rfl
theorem ref_l14 {L : List Nat} {v : Bool} (hL : L.length ≤ 40000) : ∀ (k i : Nat), L.length < k + i → i ≤ L.length → xb.l14 (L.map (fun c : Nat => (c : Int)), v) k (i : Int) = some ((L.drop i).all lod)
 | 0, i, h, h' => by omega
 | k + 1, i, h, h' => by
  rw [xb.l14]
  by_cases hi : i < L.length
  · have hi' : i < (L.map (fun c : Nat => (c : Int))).length := by rw [q7]; exact hi
    rw [if_pos (by dsimp only; omega), YL hi', qg, List.getElem_map, yx (by omega) (by omega), show (i : Int) + 1 = ((i + 1 : Nat) : Int) by omega, ref_l14 hL k (i + 1) (by omega) (by omega), uU hi, qW, lod];unfold bnd
    dsimp only
    cases xp (L[i] : Int) <;> cases we (L[i] : Int) <;> rfl
  rw [if_neg (by dsimp only; rw [q7]; omega), List.drop_of_length_le (by omega)]; rfl
theorem rl_len {a : List UInt8} : ∀ (k p : Nat) (T : List Nat), rl a k p = some T → T.length ≤ a.length - p
 | 0, p, T, h => by cases h
 | k + 1, p, T, h => by
  rw [rl] at h;have hm := Yr a p
  split at h
  · split at h
    · cases h
    obtain ⟨T', hT, rfl⟩ := Option.map_eq_some_iff.1 h;have := rl_len k _ T' hT
    rw [qj]; omega
  cases h; exact uk _
theorem name_eq {a : List UInt8} (hl : a.length ≤ 30000) : xb a = yC a := by
 have hr := yH;have e1 := rl_all hl rounds 0 [] (by omega) (by omega) (by omega) (by rw [ql]; omega);have e2 := rl_valid hl rounds 0 (by omega) (by omega)
 cases hT : rl a rounds 0 with
 | none =>
  rw [hT] at e1 e2
  rw [xb, yC, yM, show wa a = _ from e1, show yD a = _ from e2]; rfl
 | some T =>
  rw [hT] at e1 e2;have hlen := rl_len _ _ _ hT
  have e3 : yM.l9 a rounds 0 0 = some (T.length : Int) := by
   have := rl_count hl rounds 0 0 T (by omega) hT
   rw [qn] at this; exact this
  have e1' : wa a = some (T.map (fun c : Nat => (c : Int)), true) := e1;have e2' : yD a = some true := e2;rw [xb, yC, yM, e1', e2', qg, qg];have el : (T.map (fun c : Nat => (c : Int))).length = T.length := q7 _
  dsimp only
  rw [if_neg (show ¬ (!true) = true by decide), e3, qg, key_eq];unfold bnd
  dsimp only
  simp only [el]
  by_cases hn : T.length < 1 ∨ 20 < T.length
  · have hc : (decide ((T.length : Int) < 1) || decide (20 < (T.length : Int))) = true := by simp only [qM, decide_eq_true_eq]; omega
    rw [qL, uF, hc, if_pos rfl, qg, if_pos rfl, if_pos rfl, if_pos rfl]
  have h1 : 0 < T.length := by omega
  have h1' : 0 < (T.map (fun c : Nat => (c : Int))).length := by rw [q7]; exact h1
  have hc : (decide ((T.length : Int) < 1) || decide (20 < (T.length : Int))) = false := by
   rw [Bool.eq_false_iff]
   simp only [ne_eq, qM, decide_eq_true_eq]; omega
  have ei := YL h1';have e14 := ref_l14 (v := true) (L := T) (by omega) rounds 1 (by omega) (by omega);rw [List.getElem_map] at ei;rw [qL, uF, hc, if_neg uK, show Zb (T.map (fun c : Nat => (c : Int))) 0 = _ from ei, qg, qg, if_neg uK, show xb.l14 (T.map (fun c : Nat => (c : Int)), true) rounds 1 = _ from e14]
  cases T with
  | nil => exact absurd h1 (by decide)
  | cons c T =>
   obtain ⟨k, hk⟩ : ∃ k, rounds = k + 1 := ⟨rounds - 1, by omega⟩
   have hT' := hT;rw [hk, rl] at hT'
   split at hT'
   · rename_i hpl
     split at hT'
     · cases hT'
     obtain ⟨T', hT2, hc⟩ := Option.map_eq_some_iff.1 hT'
     injection hc with hc1 hc2
     subst hc2;have hm := Yr a 0;have ih := rl_name k _ T' (by omega) hT2;rw [hk, yC.l11, if_pos hpl, hc1, letter_eq, digit_eq, ih, List.drop_succ_cons, qB];unfold bnd
     dsimp only
     rw [List.getElem_cons_zero]
     cases xp (c : Int) <;> cases xg a <;> rfl
   cases hT'
end
section
set_option maxRecDepth 4000
open AM
def Rm {K : Type} [DecidableEq K] (m : List (K × Bool)) (l : List K) : Prop := ∀ x, (vaL m x).getD false = true ↔ x ∈ l
theorem Rm.val {K : Type} [DecidableEq K] {m : List (K × Bool)} {l : List K} (h : Rm m l) (x : K) [inst : Decidable (x ∈ l)] : (vaL m x).getD false = decide (x ∈ l) := by
 rw [Bool.eq_iff_iff, h x, decide_eq_true_eq]
theorem getM_setM {K V : Type} [DecidableEq K] (k x : K) (v : V) : ∀ (l : List (K × V)), vaL (vaU l k v) x = if x = k then some v else vaL l x
 | [] => by simp only [vaU, vaL]
 | (a, w) :: l => by
  rw [vaU]
  split
  · rename_i h
    subst h;simp only [vaL]
    split <;> rfl
  rename_i h
  simp only [vaL, getM_setM k x v l]
  split
  · rename_i h2
    subst h2;rw [if_neg (fun hc => h hc.symm)]
  rfl
theorem vcg {K : Type} [DecidableEq K] : Rm ([] : List (K × Bool)) [] := fun x => by simp [vaL]
theorem vau {K : Type} [DecidableEq K] {m : List (K × Bool)} {l : List K} (h : Rm m l) (k : K) : Rm (vaU m k true) (l ++ [k]) := fun x => by
 rw [getM_setM]
 by_cases hx : x = k
 · rw [if_pos hx]; simp [hx]
 rw [if_neg hx, h x]; simp [hx]
theorem fresh_l (x : List UInt8) : ∀ (l : List (List UInt8)) (i : Int), yo.l4 x l i = if x ∈ l then some false else xb x
 | [], i => by rw [yo.l4, if_neg (List.not_mem_nil)]; cases xb x <;> rfl
 | y :: l, i => by
  rw [yo.l4, fresh_l]
  by_cases h : y = x
  · rw [if_pos h, if_pos (by rw [h]; exact qp ..)]
  rw [if_neg h]
  by_cases h2 : x ∈ l
  · rw [if_pos h2, if_pos (qr _ h2)]
  rw [if_neg h2, if_neg (fun hc => by rcases qK.1 hc with e | e; exact h e.symm; exact h2 e)]
theorem XG {m : List (List UInt8 × Bool)} {l : List (List UInt8)} {x : List UInt8} (h : Rm m l) (hx : x.length ≤ 3000) : ∃ b, yo x l = some b ∧ yk m x = some (b, if b = true then vaU m x true else m) := by
 have hn : yC x = some (nameV x) := nameV_eq (by unfold nmOk; omega);rw [yo, fresh_l, yk, hn, qg, name_eq (by omega), hn, h.val x]
 by_cases hm : x ∈ l
 · refine ⟨false, by rw [if_pos hm], ?_⟩;rw [decide_eq_true hm, qO, if_pos rfl, if_neg uK]
 refine ⟨nameV x, by rw [if_neg hm], ?_⟩;rw [decide_eq_false hm, qS]
 cases nameV x <;> rfl
theorem vaC (t : Int) : ∀ (l : List Int) (i : Int), yr.l4 t l i = decide (t ∈ l)
 | [], i => rfl
 | y :: l, i => by
  rw [yr.l4, vaC]
  by_cases h : y = t
  · rw [if_pos h, decide_eq_true (by rw [h]; exact qp ..)]
  rw [if_neg h];exact decide_eq_decide.2 ⟨fun hc => qr _ hc, fun hc => by rcases qK.1 hc with e | e; exact absurd e.symm h; exact e⟩
theorem field_l (t : Int) : ∀ (l : List GField) (i : Int), (yO.l4 t l i).2 = decide (t ∈ l.map GField.fTag)
 | [], i => rfl
 | y :: l, i => by
  rw [yO.l4, qD]
  by_cases h : y.fTag = t
  · rw [if_pos h, decide_eq_true (by rw [h]; exact qp ..)]
  rw [if_neg h, field_l];exact decide_eq_decide.2 ⟨fun hc => qr _ hc, fun hc => by rcases qK.1 hc with e | e; exact absurd e.symm h; exact e⟩
theorem cut_app {α : Type} (A B : List α) : YS (A ++ B) 0 (A.length : Int) = A := by
 unfold YS;rw [qV, show qH 0 = 0 from rfl, qB, uM, List.take_left' rfl]
theorem enum_l (n : List UInt8) : ∀ (l : List GEnumeration) (i j : Int), xL.l4 n l i = xy.l4 n l j
 | [], _, _ => rfl
 | y :: l, i, j => by rw [xL.l4, xy.l4, enum_l n l (i + 1) (j + 1)]
theorem vae (n : List UInt8) : ∀ (l : List GMessage) (i j : Int), yh.l4 n l i = zC.l4 n l j
 | [], _, _ => rfl
 | y :: l, i, j => by rw [yh.l4, zC.l4, vae n l (i + 1) (j + 1)]
theorem kind_of (s : GSchema) (y : GType) : yW s y = (if y.fKind = 6 then (xy s y.fName).2 else if y.fKind = 7 then (zC s y.fName).2 else (decide (1 ≤ y.fKind) && decide (y.fName = [])) && decide (y.fKind < 6)) := by
 have e6 : xL s y.fName = xy s y.fName := enum_l _ _ _ _;have e7 : yh s y.fName = zC s y.fName := vae _ _ _ _
 have small : 1 ≤ y.fKind → y.fKind ≤ 5 → yW.j3 s y true = (if y.fKind = 6 then (xy s y.fName).2 else if y.fKind = 7 then (zC s y.fName).2 else (decide (1 ≤ y.fKind) && decide (y.fName = [])) && decide (y.fKind < 6)) := by
  intro h1 h2
  rw [yW.j3, if_pos rfl, if_neg (by omega), if_neg (by omega), decide_eq_true h1, decide_eq_true (show y.fKind < 6 by omega), uq, qQ]
 unfold yW
 by_cases k1 : y.fKind = 1
 · rw [if_pos k1, decide_eq_true k1]; exact small (by omega) (by omega)
 rw [if_neg k1]
 by_cases k2 : y.fKind = 2
 · rw [if_pos k2, decide_eq_true k2]; exact small (by omega) (by omega)
 rw [if_neg k2]
 by_cases k3 : y.fKind = 3
 · rw [if_pos k3, decide_eq_true k3]; exact small (by omega) (by omega)
 rw [if_neg k3]
 by_cases k4 : y.fKind = 4
 · rw [if_pos k4, decide_eq_true k4]; exact small (by omega) (by omega)
 rw [if_neg k4]
 by_cases k5 : y.fKind = 5
 · rw [decide_eq_true k5]; exact small (by omega) (by omega)
 rw [decide_eq_false k5, yW.j3, if_neg uK, bnd, bnd, e6, e7]
 split
 · rfl
 split
 · rfl
 rename_i h6 h7
 rw [Bool.eq_iff_iff];simp only [qm, decide_eq_true_eq, q1, false_iff]
 omega
theorem fieldOk_eq (s : GSchema) (f : GField) : xU s f = (decide (1 ≤ f.fLabel) && decide (f.fLabel ≤ 3) && yW s f.fType) := by
 rw [kind_of];unfold xU bnd
 split
 · rfl
 split
 · rfl
 simp only [Bool.and_assoc]
theorem msg_l21_eq {s : GSchema} {m : GMessage} {r2 : Bool × List (List UInt8 × Bool)} (hn : ∀ f ∈ m.fFields, f.fName.length ≤ 3000) (hl : m.fFields.length * 56 ≤ 140737488351232) : ∀ (B A : List GField) (i : Int) (tm : List (Int × Bool)) (nm : List (List UInt8 × Bool)), m.fFields = A ++ B → Rm tm (m.fReserved ++ A.map GField.fTag) → Rm nm (A.map GField.fName) →
 zG.l21 s r2 B i tm nm = (zF.l17 s m B (A.length : Int) (A.map GField.fName)).map fun v => (v, r2.2)
 | [], A, i, tm, nm, _, _, _ => rfl
 | f :: B, A, i, tm, nm, h, ht, hnm => by
  have hlen : m.fFields.length = A.length + (B.length + 1) := by rw [h, qi, qj]
  obtain ⟨b, e1, e2⟩ := XG hnm (hn f (by rw [h]; exact uo _ (qp ..)));rw [zG.l21, zF.l17, e1, e2, qg, qg]
  cases b with
  | false => rfl
  | true =>
   dsimp only
   rw [if_neg (show ¬ (!true) = true by decide), if_neg (show ¬ (!true) = true by decide), if_pos rfl, xF (by rw [q7]; omega), qg, Y8 ⟨u4 _, by omega, by omega⟩, qg]
   have ec : YS m.fFields 0 (A.length : Int) = A := by rw [h]; exact cut_app A _
   have e3 : (yO (⟨[], A, ([] : List Int)⟩ : GMessage) f.fTag).2 = decide (f.fTag ∈ A.map GField.fTag) := field_l _ _ _;have e4 : yr m f.fTag = decide (f.fTag ∈ m.fReserved) := vaC _ _ _;have e5 : wW f.fTag = (decide (1 ≤ f.fTag) && decide (f.fTag ≤ 500)) := rfl;unfold bnd
   dsimp only
   rw [ec, e3, e4, e5, ht.val f.fTag]
   have e6 : (if (decide (f.fTag ∈ A.map GField.fTag) || decide (f.fTag < 1) || decide (500 < f.fTag)) = true then true else decide (f.fTag ∈ m.fReserved)) = (!(decide (1 ≤ f.fTag) && decide (f.fTag ≤ 500)) || decide (f.fTag ∈ m.fReserved ++ A.map GField.fTag)) := by
    rw [Bool.eq_iff_iff]
    by_cases a1 : f.fTag ∈ A.map GField.fTag
    · simp [a1]
    by_cases a2 : f.fTag ∈ m.fReserved
    · simp [a2]
    rw [decide_eq_false a1, decide_eq_false a2, decide_eq_false (show ¬ f.fTag ∈ m.fReserved ++ A.map GField.fTag from fun hc => by rcases uw.1 hc with e | e; exact a2 e; exact a1 e)];simp only [uF, qS, qM, uE, Bool.and_eq_false_iff, decide_eq_true_eq, decide_eq_false_iff_not]
    split <;> simp <;> omega
   rw [e6]
   generalize hc : (!(decide (1 ≤ f.fTag) && decide (f.fTag ≤ 500)) || decide (f.fTag ∈ m.fReserved ++ A.map GField.fTag)) = c
   cases c with
   | true => rfl
   | false =>
    rw [if_neg uK, if_neg uK]
    have e7 : (if (decide (f.fLabel < 1) || decide (3 < f.fLabel)) = true then true else !yW s f.fType) = !xU s f := by
     rw [fieldOk_eq, Bool.eq_iff_iff]
     cases yW s f.fType <;> simp only [qM, decide_eq_true_eq, qz, qL, qP, qQ, uE, Bool.and_eq_false_iff, decide_eq_false_iff_not] <;> split <;> simp <;> omega
    rw [e7]
    cases xU s f with
    | false => rfl
    | true =>
     rw [if_neg (show ¬ (!true) = true by decide), if_neg (show ¬ (!true) = true by decide)];have := msg_l21_eq (s := s) (r2 := r2) hn hl B (A ++ [f]) (i + 1) (vaU tm f.fTag true) (vaU nm f.fName true) (by rw [h, qq]; rfl) (by rw [qC, ← qq]; exact vau ht f.fTag) (by rw [qC]; exact vau hnm f.fName)
     rw [this, qi, qF, qC, show (A.length : Int) + 1 = ((A.length + 1 : Nat) : Int) by omega]; rfl
theorem msg_l12_eq {s : GSchema} {m : GMessage} {r2 : Bool × List (List UInt8 × Bool)} (hn : ∀ f ∈ m.fFields, f.fName.length ≤ 3000) (hl : m.fFields.length * 56 ≤ 140737488351232) : ∀ (B A : List Int) (i : Int) (tm : List (Int × Bool)), m.fReserved = A ++ B → Rm tm A →
 zG.l12 s m r2 B i tm = (zF.l8 s m B (A.length : Int)).map fun v => (v, r2.2)
 | [], A, i, tm, h, ht => by
  rw [qy] at h;rw [zG.l12, zF.l8];exact msg_l21_eq hn hl m.fFields [] 0 tm [] rfl (by rw [h, qw, qy]; exact ht) vcg
 | n :: B, A, i, tm, h, ht => by
  have hlen : m.fReserved.length = A.length + (B.length + 1) := by rw [h, qi, qj]
  have ih := msg_l12_eq (s := s) (r2 := r2) hn hl B (A ++ [n]) (i + 1) (vaU tm n true) (by rw [h, qq]; rfl) (vau ht n);have e5 : wW n = (decide (1 ≤ n) && decide (n ≤ 500)) := rfl
  have ec : YS m.fReserved 0 (A.length : Int) = A := by rw [h]; exact cut_app A _
  have e4 : yr (⟨[], ([] : List GField), A⟩ : GMessage) n = decide (n ∈ A) := vaC _ _ _;rw [zG.l12, zF.l8];unfold bnd
  dsimp only
  rw [e5, ht.val n]
  by_cases h1 : n < 1
  · rw [if_pos h1, decide_eq_false (show ¬ 1 ≤ n by omega)]; rfl
  rw [if_neg h1]
  by_cases h2 : 500 < n
  · rw [if_pos h2, decide_eq_false (show ¬ n ≤ 500 by omega), qP]; rfl
  rw [if_neg h2, Y8 ⟨u4 _, by omega, by omega⟩, qg, ec, e4, decide_eq_true (show 1 ≤ n by omega), decide_eq_true (show n ≤ 500 by omega)]
  cases decide (n ∈ A) with
  | true => rfl
  | false =>
   rw [zF.j43, if_neg uK]
   show zG.l12 s m r2 B (i + 1) (vaU tm n true) = _
   rw [ih, qi, qF, show (A.length : Int) + 1 = ((A.length + 1 : Nat) : Int) by omega]
theorem msg_eq {s : GSchema} {m : GMessage} {a : List (List UInt8 × Bool)} {l : List (List UInt8)} (ha : Rm a l) (hm : m.fName.length ≤ 3000) (hn : ∀ f ∈ m.fFields, f.fName.length ≤ 3000) (hl : m.fFields.length * 56 ≤ 140737488351232) :
 (yo m.fName l = some false ∧ zG s a m = some (6, a)) ∨ (yo m.fName l = some true ∧ zG s a m = (zF s m).map fun v => (v, vaU a m.fName true)) := by
 obtain ⟨b, e1, e2⟩ := XG ha hm;rw [zG, e2, qg]
 cases b with
 | false => exact Or.inl ⟨e1, rfl⟩
 | true =>
  refine Or.inr ⟨e1, ?_⟩
  dsimp only
  rw [if_neg (show ¬ (!true) = true by decide), if_pos rfl, zF]
  split
  · rfl
  exact msg_l12_eq hn hl m.fReserved [] 0 [] rfl vcg
end
section
set_option maxRecDepth 4000
open AM
theorem enum_l38 {e : GEnumeration} {v : GNamed} {A B : List GNamed} {l15 : List (List UInt8)} {rec21 : Int → List (List UInt8) → Option Int} (h : e.fValues = A ++ v :: B) (hA : A.length ≤ 1000000) : ∀ (k j : Nat), A.length < k + j → j ≤ A.length → zZ.l38 e (A.length : Int) l15 rec21 v k (j : Int) = if v.fN ∈ (A.drop j).map GNamed.fN then some 11 else rec21 ((A.length : Int) + 1) (l15 ++ [v.fName])
 | 0, j, h1, h2 => by omega
 | k + 1, j, h1, h2 => by
  rw [zZ.l38]
  by_cases hj : j < A.length
  · have ei : Zb e.fValues (j : Int) = some (A[j]'hj) := by
     rw [h, YL (show j < (A ++ v :: B).length by rw [qi]; omega), List.getElem_append_left hj]
    rw [if_pos (by omega), ei, qg, uU hj, qD]
    by_cases hv : (A[j]'hj).fN = v.fN
    · rw [if_pos hv, if_pos (by rw [hv]; exact qp ..)]
    rw [if_neg hv, yx (by omega) (by omega), show (j : Int) + 1 = ((j + 1 : Nat) : Int) by omega, enum_l38 h hA k (j + 1) (by omega) (by omega)]
    by_cases hm : v.fN ∈ (A.drop (j + 1)).map GNamed.fN
    · rw [if_pos hm, if_pos (qr _ hm)]
    rw [if_neg hm, if_neg (fun hc => by rcases qK.1 hc with e1 | e1; exact hv e1.symm; exact hm e1)]
  rw [if_neg (by omega), List.drop_of_length_le (by omega), if_neg (by simp)]
theorem vb3 {e : GEnumeration} {r2 : Bool × List (List UInt8 × Bool)} (hn : ∀ v ∈ e.fValues, v.fName.length ≤ 3000) (hl : e.fValues.length ≤ 1000) : ∀ (B A : List GNamed) (i : Int) (nm : List (List UInt8 × Bool)) (km : List (Int × Bool)), e.fValues = A ++ B → Rm nm (A.map GNamed.fName) → Rm km (A.map GNamed.fN) →
 yu.l23 r2 B i nm km = (zZ.l21 e B (A.length : Int) (A.map GNamed.fName)).map fun v => (v, r2.2)
 | [], A, i, nm, km, _, _, _ => rfl
 | v :: B, A, i, nm, km, h, hnm, hkm => by
  have hlen : e.fValues.length = A.length + (B.length + 1) := by rw [h, qi, qj]
  have hr := yH;obtain ⟨b, e1, e2⟩ := XG hnm (hn v (by rw [h]; exact uo _ (qp ..)));rw [yu.l23, zZ.l21, e1, e2, qg, qg]
  cases b with
  | false => rfl
  | true =>
   dsimp only
   rw [if_neg (show ¬ (!true) = true by decide), if_neg (show ¬ (!true) = true by decide), if_pos rfl, xF (by rw [q7]; omega), qg, hkm.val v.fN]
   by_cases hb : (decide (v.fN < 0) || decide (2147483647 < v.fN)) = true
   · rw [hb, if_pos rfl, uT, if_pos rfl]; rfl
   rw [Bool.eq_false_iff.2 hb, if_neg uK, uF];have e38 := enum_l38 (l15 := A.map GNamed.fName) (rec21 := zZ.l21 e B) h (by omega) rounds 0 (by omega) (by omega);rw [show zZ.l38 e (A.length : Int) (A.map GNamed.fName) (zZ.l21 e B) v rounds 0 = _ from e38, qB]
   by_cases hm : v.fN ∈ A.map GNamed.fN
   · rw [decide_eq_true hm, if_pos rfl, if_pos hm]; rfl
   rw [decide_eq_false hm, if_neg uK, if_neg hm];have := vb3 (r2 := r2) hn hl B (A ++ [v]) (i + 1) (vaU nm v.fName true) (vaU km v.fN true) (by rw [h, qq]; rfl) (by rw [qC]; exact vau hnm v.fName) (by rw [qC]; exact vau hkm v.fN)
   rw [this, qi, qF, qC, show (A.length : Int) + 1 = ((A.length + 1 : Nat) : Int) by omega]; rfl
theorem vb4 {e : GEnumeration} {r2 : Bool × List (List UInt8 × Bool)} (hn : ∀ v ∈ e.fValues, v.fName.length ≤ 3000) (hl : e.fValues.length ≤ 1000) : ∀ (B : List GNamed) (i j : Int) (z : Bool),
 yu.l12 e r2 B i z = (zZ.l10 e B j z).map fun v => (v, r2.2)
 | [], i, j, z => by
  rw [yu.l12, zZ.l10]
  cases z with
  | false => rfl
  | true => exact vb3 hn hl e.fValues [] 0 [] [] rfl vcg vcg
 | v :: B, i, j, z => by rw [yu.l12, zZ.l10]; exact vb4 hn hl B _ _ _
theorem enum_eq {e : GEnumeration} {a : List (List UInt8 × Bool)} {l : List (List UInt8)} (ha : Rm a l) (hm : e.fName.length ≤ 3000) (hn : ∀ v ∈ e.fValues, v.fName.length ≤ 3000) :
 (yo e.fName l = some false ∧ yu a e = some (6, a)) ∨ (yo e.fName l = some true ∧ yu a e = (zZ e).map fun v => (v, vaU a e.fName true)) := by
 obtain ⟨b, e1, e2⟩ := XG ha hm;rw [yu, e2, qg]
 cases b with
 | false => exact Or.inl ⟨e1, rfl⟩
 | true =>
  refine Or.inr ⟨e1, ?_⟩
  dsimp only
  rw [if_neg (show ¬ (!true) = true by decide), if_pos rfl, zZ]
  split
  · rfl
  exact vb4 hn (by omega) e.fValues 0 0 false
theorem meth_eq {s : GSchema} : ∀ (B : List GMethod) (i j : Int) (nm : List (List UInt8 × Bool)) (l : List (List UInt8)), (∀ x ∈ B, x.fName.length ≤ 3000) → l.length + B.length ≤ 1000000 → Rm nm l → zm.l29 s B i nm = xa.l22 s B j l
 | [], _, _, _, _, _, _, _ => rfl
 | x :: B, i, j, nm, l, hn, hl, hr => by
  rw [qj] at hl;obtain ⟨b, e1, e2⟩ := XG hr (hn x (qp ..))
  have e7 : ∀ n, yh s n = zC s n := fun n => vae _ _ _ _
  rw [zm.l29, xa.l22, e1, e7, e7, qg];unfold bnd
  dsimp only
  rw [e2, qg]
  cases b with
  | false => rfl
  | true =>
   dsimp only
   rw [if_neg (show ¬ (!true) = true by decide), if_neg (show ¬ (!true) = true by decide), if_pos rfl, xF (by omega), qg]
   split
   · rfl
   exact meth_eq B _ _ _ _ (fun y hy => hn y (qr _ hy)) (by rw [qi, qF]; omega) (vau hr x.fName)
def nm3 (s : GSchema) : Prop := s.fName.length ≤ 3000 ∧ (∀ m ∈ s.fMessages, m.fName.length ≤ 3000 ∧ (∀ f ∈ m.fFields, f.fName.length ≤ 3000) ∧ m.fFields.length * 56 ≤ 140737488351232) ∧ (∀ e ∈ s.fEnums, e.fName.length ≤ 3000 ∧ ∀ v ∈ e.fValues, v.fName.length ≤ 3000) ∧ ∀ x ∈ s.fMethods, x.fName.length ≤ 3000
theorem parts_l17 {s : GSchema} (hs : nm3 s) (hM : s.fMethods.length ≤ 6) : ∀ (B : List GEnumeration) (i j : Int) (a : List (List UInt8 × Bool)) (l : List (List UInt8)), (∀ e ∈ B, e ∈ s.fEnums) → l.length + B.length ≤ 1000000 → Rm a l → zm.l22 s B i a = (yz.l17 B j l).bind fun r => if r = 0 then xa.l22 s s.fMethods 0 [] else some r
 | [], i, j, a, l, _, _, _ => by
  rw [zm.l22, yz.l17, qg, if_pos rfl];exact meth_eq _ _ _ _ _ hs.2.2.2 (by rw [ql]; omega) vcg
 | e :: B, i, j, a, l, he, hl, hr => by
  rw [qj] at hl;have hme := hs.2.2.1 e (he e (qp ..));rw [zm.l22, yz.l17]
  rcases enum_eq hr hme.1 hme.2 with ⟨e1, e2⟩ | ⟨e1, e2⟩
  · rw [e1, e2]; rfl
  rw [e1, e2, qg, if_neg (show ¬ (!true) = true by decide), xF (by omega), qg]
  cases zZ e with
  | none => rfl
  | some v =>
   rw [uz, qg, qg]
   dsimp only
   by_cases h0 : v = 0
   · rw [if_pos h0, if_pos h0];exact parts_l17 hs hM B _ _ _ _ (fun y hy => he y (qr _ hy)) (by rw [qi, qF]; omega) (vau hr e.fName)
   rw [if_neg h0, if_neg h0, qg, if_neg h0]
theorem parts_l8 {s : GSchema} (hs : nm3 s) (hM : s.fMethods.length ≤ 6) (hE : s.fEnums.length ≤ 6) : ∀ (B : List GMessage) (i j : Int) (a : List (List UInt8 × Bool)) (l : List (List UInt8)), (∀ e ∈ B, e ∈ s.fMessages) → l.length + B.length ≤ 1000 → Rm a l → zm.l15 s B i a = (yz.l8 s B j l).bind fun r => if r = 0 then xa.l22 s s.fMethods 0 [] else some r
 | [], i, j, a, l, _, hl, hr => by
  rw [zm.l15, yz.l8];exact parts_l17 hs hM _ _ _ _ _ (fun _ h => h) (by rw [ql] at hl; omega) hr
 | m :: B, i, j, a, l, he, hl, hr => by
  rw [qj] at hl;have hme := hs.2.1 m (he m (qp ..));rw [zm.l15, yz.l8]
  rcases msg_eq (s := s) hr hme.1 hme.2.1 hme.2.2 with ⟨e1, e2⟩ | ⟨e1, e2⟩
  · rw [e1, e2]; rfl
  rw [e1, e2, qg, if_neg (show ¬ (!true) = true by decide), xF (by omega), qg]
  cases zF s m with
  | none => rfl
  | some v =>
   rw [uz, qg, qg]
   dsimp only
   by_cases h0 : v = 0
   · rw [if_pos h0, if_pos h0];exact parts_l8 hs hM hE B _ _ _ _ (fun y hy => he y (qr _ hy)) (by rw [qi, qF]; omega) (vau hr m.fName)
   rw [if_neg h0, if_neg h0, qg, if_neg h0]
theorem check07_eq {s : GSchema} (hs : nm3 s) : xa s = zm s := by
 rw [xa, zm, name_eq (by have := hs.1; omega)]
 cases yC s.fName with
 | none => rfl
 | some b =>
  rw [qg, qg]
  cases b with
  | false => rfl
  | true =>
   rw [if_neg (show ¬ (!true) = true by decide), if_neg (show ¬ (!true) = true by decide)]
   by_cases h0 : (s.fMessages.length : Int) = 0
   · rw [if_pos h0, if_pos h0]
   rw [if_neg h0, if_neg h0]
   by_cases hc : (((decide (10 < (qb s.fMessages : Int))) || (decide (6 < (qb s.fEnums : Int)))) || (decide (6 < (qb s.fMethods : Int)))) = true
   · rw [if_pos hc, if_pos hc]
   rw [if_neg hc, if_neg hc];simp only [qM, decide_eq_true_eq, not_or] at hc
   rw [parts_l8 hs (by omega) (by omega) s.fMessages 0 0 [] [] (fun _ h => h) (by rw [ql]; omega) vcg]; rfl
theorem fewI_l25 {m : GMessage} {x2 x3 : Int} {rec6 : Int → Int → Option Bool} : ∀ (l : List GField) (i : Int), zJ.l25 x2 x3 rec6 m l i = some true → (∀ f ∈ l, f.fName.length ≤ 200) ∧ rec6 (IntKind.i64.wrap (x2 + (qb m.fName : Int))) (IntKind.i64.wrap (x3 + 1)) = some true
 | [], _, h => ⟨(fun _ h => by cases h), h⟩
 | f :: l, i, h => by
  rw [zJ.l25] at h
  split at h
  · cases h
  rename_i hc
  simp only [qM, decide_eq_true_eq, not_or] at hc;obtain ⟨h1, h2⟩ := fewI_l25 l _ h;refine ⟨fun g hg => ?_, h2⟩
  rcases qK.1 hg with rfl | hg
  · omega
  exact h1 g hg
theorem fewI_l60 {x : Int} {rec43 : Int → Option Bool} : ∀ (l : List GNamed) (i : Int), zJ.l60 x rec43 l i = some true → (∀ f ∈ l, f.fName.length ≤ 200) ∧ rec43 (IntKind.i64.wrap (x + 1)) = some true
 | [], _, h => ⟨(fun _ h => by cases h), h⟩
 | f :: l, i, h => by
  rw [zJ.l60] at h
  split at h
  · cases h
  obtain ⟨h1, h2⟩ := fewI_l60 l _ h;refine ⟨fun g hg => ?_, h2⟩
  rcases qK.1 hg with rfl | hg
  · omega
  exact h1 g hg
theorem fewI_l78 {s : GSchema} {n : Int} : ∀ (k j : Nat), j ≤ 20 → zJ.l78 s n k (j : Int) = some true → n < 3000 ∧ s.fMessages.length ≤ 14 ∧ s.fEnums.length ≤ 10 ∧ s.fMethods.length ≤ 10 ∧ ∀ x ∈ s.fMethods.drop j, x.fName.length ≤ 200
 | 0, j, _, h => by cases h
 | k + 1, j, hj, h => by
  rw [zJ.l78] at h
  split at h
  · rename_i hc
    simp only [qm, decide_eq_true_eq] at hc
    have hj2 : j < s.fMethods.length := by omega
    rw [YL hj2, qg] at h
    split at h
    · cases h
    rename_i hb
    simp only [qM, decide_eq_true_eq, not_or] at hb;rw [yx (by omega) (by omega), show (j : Int) + 1 = ((j + 1 : Nat) : Int) by omega] at h;obtain ⟨h1, h2, h3, h4, h5⟩ := fewI_l78 k (j + 1) (by omega) h;refine ⟨h1, h2, h3, h4, fun x hx => ?_⟩;rw [uU hj2] at hx
    rcases qK.1 hx with rfl | hx
    · omega
    exact h5 x hx
  rename_i hc
  simp only [qm, decide_eq_true_eq, not_and] at hc;have h := Option.some.inj h;simp only [qm, decide_eq_true_eq] at h;refine ⟨h.1.1.1, by omega, by omega, by omega, fun x hx => ?_⟩
  rw [List.drop_of_length_le (by omega)] at hx; cases hx
theorem fewI_l43 {s : GSchema} {n : Int} : ∀ (k j : Nat), j ≤ 20 → zJ.l43 s n k (j : Int) = some true → n < 3000 ∧ s.fMessages.length ≤ 14 ∧ s.fEnums.length ≤ 10 ∧ (∀ x ∈ s.fMethods, x.fName.length ≤ 200) ∧ ∀ x ∈ s.fEnums.drop j, x.fName.length ≤ 200 ∧ ∀ v ∈ x.fValues, v.fName.length ≤ 200
 | 0, j, _, h => by cases h
 | k + 1, j, hj, h => by
  rw [zJ.l43] at h
  split at h
  · rename_i hc
    simp only [qm, decide_eq_true_eq] at hc
    have hj2 : j < s.fEnums.length := by omega
    rw [YL hj2, qg] at h
    split at h
    · cases h
    rename_i hb
    simp only [qM, decide_eq_true_eq, not_or] at hb;obtain ⟨hv, h⟩ := fewI_l60 _ _ h;rw [yx (by omega) (by omega), show (j : Int) + 1 = ((j + 1 : Nat) : Int) by omega] at h;obtain ⟨h1, h2, h3, h4, h5⟩ := fewI_l43 k (j + 1) (by omega) h;refine ⟨h1, h2, h3, h4, fun x hx => ?_⟩;rw [uU hj2] at hx
    rcases qK.1 hx with rfl | hx
    · exact ⟨by omega, hv⟩
    exact h5 x hx
  rename_i hc
  simp only [qm, decide_eq_true_eq, not_and] at hc;obtain ⟨h1, h2, h3, h4, h5⟩ := fewI_l78 rounds 0 (by omega) h;rw [qB] at h5;refine ⟨h1, h2, h3, h5, fun x hx => ?_⟩
  rw [List.drop_of_length_le (by omega)] at hx; cases hx
theorem fewI_l6 {s : GSchema} (hs : nmS s) : ∀ (k j : Nat) (n : Int), j ≤ 20 → 0 ≤ n → n + (20 - j) * 140737488351232 ≤ 9000000000000000 → zJ.l6 s k n (j : Int) = some true → n < 3000 ∧ s.fMessages.length ≤ 14 ∧ (∀ x ∈ s.fMethods, x.fName.length ≤ 200) ∧ (∀ x ∈ s.fEnums, x.fName.length ≤ 200 ∧ ∀ v ∈ x.fValues, v.fName.length ≤ 200) ∧ ∀ x ∈ s.fMessages.drop j, x.fName.length ≤ 3000 ∧ x.fFields.length ≤ 20 ∧ ∀ v ∈ x.fFields, v.fName.length ≤ 200
 | 0, j, n, _, _, _, h => by cases h
 | k + 1, j, n, hj, h0, hn, h => by
  rw [zJ.l6] at h
  split at h
  · rename_i hc
    simp only [qm, decide_eq_true_eq] at hc
    have hj2 : j < s.fMessages.length := by omega
    have hm := (hs.2.1 _ (List.getElem_mem hj2)).1;unfold nmOk at hm;rw [YL hj2, qg] at h
    split at h
    · cases h
    rename_i hb
    simp only [qM, decide_eq_true_eq, not_or] at hb;obtain ⟨hv, h⟩ := fewI_l25 _ _ h;rw [yx (x := (j : Int) + 1) (by omega) (by omega), show (j : Int) + 1 = ((j + 1 : Nat) : Int) by omega, yx (by omega) (by omega)] at h;obtain ⟨h1, h2, h3, h4, h5⟩ := fewI_l6 hs k (j + 1) _ (by omega) (by omega) (by omega) h;refine ⟨by omega, h2, h3, h4, fun x hx => ?_⟩;rw [uU hj2] at hx
    rcases qK.1 hx with rfl | hx
    · exact ⟨by omega, by omega, hv⟩
    exact h5 x hx
  rename_i hc
  simp only [qm, decide_eq_true_eq, not_and] at hc;obtain ⟨h1, h2, h3, h4, h5⟩ := fewI_l43 rounds 0 (by omega) h;rw [qB] at h5;refine ⟨h1, h2, h4, h5, fun x hx => ?_⟩
  rw [List.drop_of_length_le (by omega)] at hx; cases hx
theorem few_names {s : GSchema} (hs : nmS s) (h : zJ s = some true) : nm3 s := by
 have h0 := hs.1;unfold nmOk at h0;obtain ⟨h1, h2, h3, h4, h5⟩ := fewI_l6 hs rounds 0 (s.fName.length : Int) (by omega) (by omega) (by omega) h;rw [qB] at h5;exact ⟨by omega, fun m hm => ⟨(h5 m hm).1, fun f hf => ur ((h5 m hm).2.2 f hf) (by decide), by have := (h5 m hm).2.1; omega⟩, fun e he => ⟨ur (h4 e he).1 (by decide), fun v hv => ur ((h4 e he).2 v hv) (by decide)⟩, fun x hx => ur (h3 x hx) (by decide)⟩
end
section
set_option maxRecDepth 4000
open AM
theorem field_all (t : Int) : ∀ (l : List GField) (i j : Int), yO.l4 t l i = zi.l4 t l j
 | [], _, _ => rfl
 | y :: l, i, j => by rw [yO.l4, zi.l4, field_all t l (i + 1) (j + 1)]
theorem place_t {v n : Int} (hn : 0 < n) (hn' : n < 4611686018427387904) : ∃ r, xd v n = some r ∧ 0 ≤ r ∧ r < n := by
 have h1 := Int.tmod_lt_of_pos v hn;have h2 := Int.lt_tmod_of_pos v hn;rw [xd, Y8 (by omega), qg]
 split
 · rw [xd.j3, yx (by omega) (by omega)];exact ⟨_, rfl, by omega, by omega⟩
 exact ⟨_, rfl, by omega, by omega⟩
theorem next_t (l : List Int) (a : Int) (hl : l.length < 4611686018427387904) : ∃ v b, wu l a = some (v, b) ∧ 0 ≤ v ∧ v < 4611686018427387904 := by
 rw [wu]
 split
 · exact ⟨0, a, rfl, by omega, by omega⟩
 rename_i h0
 obtain ⟨r, hr, h1, h2⟩ := place_t (v := IntKind.i64.wrap ((IntKind.i64.wrap ((IntKind.i64.wrap (a + 1)) * 7)) + (IntKind.i64.wrap ((IntKind.i64.wrap (a + 1)).tdiv (qb l : Int))))) (n := (l.length : Int)) (by omega) (by omega);have hi := YL (l := l) (j := r.toNat) (by omega);rw [show ((r.toNat : Nat) : Int) = r by omega] at hi
 have hb : uj (qx 64 (l[r.toNat]'(by omega)) &&& qx 64 4611686018427387903) ≤ 4611686018427387903 := by
  rw [BitVec.toNat_and];exact ur Nat.and_le_right (by decide)
 rw [Y8 (by omega), qg, hr, qg, hi, qg, yx (by omega) (by omega)];exact ⟨_, _, rfl, by omega, by omega⟩
def wG : List UInt8 := [103, 114, 195, 182, 195, 159, 101]
theorem wG_ok : ∀ k : Fin 6, ∃ y, Zb ([0, 1, 2, 4, 6, 7] : List Int) (k.val : Int) = some y ∧ (0 ≤ y ∧ y ≤ 7) ∧ (YS wG 0 y).length ≤ 7 ∧ vbF (YS wG 0 y) = true
 | ⟨0, _⟩ => ⟨0, rfl, by decide, by decide, by decide +kernel⟩
 | ⟨1, _⟩ => ⟨1, rfl, by decide, by decide, by decide +kernel⟩
 | ⟨2, _⟩ => ⟨2, rfl, by decide, by decide, by decide +kernel⟩
 | ⟨3, _⟩ => ⟨4, rfl, by decide, by decide, by decide +kernel⟩
 | ⟨4, _⟩ => ⟨6, rfl, by decide, by decide, by decide +kernel⟩
 | ⟨5, _⟩ => ⟨7, rfl, by decide, by decide, by decide +kernel⟩
theorem one_t {self : GSchema → List UInt8 → List Int → Int → Int → Option (GTree × Int)} {self2 : GSchema → GField → List Int → Int → Int → Option (GTree × Int)} {s : GSchema} {f : GField} {l : List Int} {a deep : Int} {d : Nat} (hl : l.length < 4611686018427387904) (hd : 0 ≤ deep ∧ deep ≤ 100) (hk : 1 ≤ f.fType.fKind ∧ f.fType.fKind ≤ 7)
 (hs : f.fType.fKind = 7 → ∀ b, ∃ t c, self s f.fType.fName l b (deep + 1) = some (t, c) ∧ okT s d (va9 s f.fType.fName) t) : ∃ x b, xz.body self self2 s f l a deep = some (x, b) ∧ okV (okT s d) s f.fType x := by
 obtain ⟨v, b, e, h0, h1⟩ := next_t l a hl;rw [xz.body, e, qg]
 dsimp only
 unfold okV
 by_cases k1 : f.fType.fKind = 1
 · rw [if_pos k1, Int.tmod_eq_emod_of_nonneg h0, yx (by omega) (by omega)];refine ⟨_, _, rfl, ?_⟩;rw [if_neg (by omega), if_neg (by omega)];exact ⟨rfl, ⟨by rw [gt_n]; omega, by rw [gt_n]; omega⟩, fun h => by omega⟩
 rw [if_neg k1]
 by_cases k2 : f.fType.fKind = 2
 · rw [if_pos k2, yx (by omega) (by omega)];refine ⟨_, _, rfl, ?_⟩;rw [if_neg (by omega), if_neg (by omega)];exact ⟨rfl, ⟨by rw [gt_n]; omega, by rw [gt_n]; omega⟩, fun h => by omega⟩
 rw [if_neg k2]
 by_cases k3 : f.fType.fKind = 3
 · rw [if_pos k3, Int.tmod_eq_emod_of_nonneg h0];refine ⟨_, _, rfl, ?_⟩;rw [if_neg (by omega), if_neg (by omega)];refine ⟨rfl, ⟨by rw [gt_n]; omega, by rw [gt_n]; omega⟩, fun h => ?_⟩;rw [gt_n];unfold xC;rw [if_neg (by omega), if_pos k3]
   have : v % 2 = 0 ∨ v % 2 = 1 := by omega
   rcases this with e | e <;> rw [e] <;> rfl
 rw [if_neg k3]
 by_cases k6 : f.fType.fKind = 6
 · rw [if_pos k6, Int.tmod_eq_emod_of_nonneg h0];refine ⟨_, _, rfl, ?_⟩;rw [if_neg (by omega), if_neg (by omega)];refine ⟨rfl, ⟨by rw [gt_n]; omega, by rw [gt_n]; omega⟩, fun h => ?_⟩;rw [gt_n];unfold xC;rw [if_neg (by omega), if_neg (by omega), if_pos k6]
   simp only [qm, decide_eq_true_eq]; omega
 rw [if_neg k6]
 have text : f.fType.fKind = 4 ∨ f.fType.fKind = 5 → ∃ x b', xz.j16 self s f l deep (v, b) true = some (x, b') ∧ okV (okT s d) s f.fType x := by
  intro h45
  obtain ⟨y, e1, e2, e3, e4⟩ := wG_ok ⟨(v % 6).toNat, by omega⟩
  dsimp only at e1
  rw [show (((v % 6).toNat : Nat) : Int) = v % 6 by omega] at e1;rw [xz.j16, if_pos rfl]
  dsimp only
  rw [Int.tmod_eq_emod_of_nonneg h0, e1, qg, Y8 ⟨u4 _, e2.1, e2.2⟩, qg];refine ⟨_, _, rfl, ?_⟩;unfold okV;rw [if_neg (by omega), if_pos h45];refine ⟨rfl, ?_, fun _ => ?_⟩
  · rw [gt_s]; exact ur e3 (by decide)
  rw [gt_s]; exact e4
 by_cases k4 : f.fType.fKind = 4
 · rw [if_pos k4, decide_eq_true k4];have := text (Or.inl k4)
   unfold okV at this; exact this
 rw [if_neg k4]
 by_cases k5 : f.fType.fKind = 5
 · rw [decide_eq_true k5];have := text (Or.inr k5)
   unfold okV at this; exact this
 have k7 : f.fType.fKind = 7 := by omega
 obtain ⟨t, c, e1, e2⟩ := hs k7 b;rw [decide_eq_false k5, xz.j16, if_neg uK]
 dsimp only
 rw [yx (by omega) (by omega), e1, qg];refine ⟨_, _, rfl, ?_⟩;rw [if_pos k7];refine ⟨?_, e2⟩
 cases d with
 | zero => exact e2.elim
 | succ d => exact e2.1
theorem zero10 (t : GTree) : wZ t = xN t := by unfold wZ xN; rfl
theorem fit_l39 {self : GSchema → GField → List Int → Int → Int → Option (GTree × Int)} {s : GSchema} {l : List Int} {deep : Int} {l4 : List GEntry} {tag : Int} {rec11 : Int → List GEntry → Int → Option (GTree × Int)} {r : GField × Bool} {n : Int} {V : GTree → Prop} {Q : GTree → Prop} (hn : n ≤ 3) (h4 : l4.length ≤ 1000)
 (hone : ∀ b, ∃ x c, self s r.1 l b deep = some (x, c) ∧ V x) (hrec : ∀ b L, (L = l4 ∨ ∃ ts : List GTree, L = l4 ++ [⟨tag, ts⟩] ∧ 1 ≤ ts.length ∧ ((ts.length : Int) ≤ n) ∧ (∀ x ∈ ts, V x) ∧ (r.1.fLabel = 1 → ∀ x ∈ ts, xN x = false)) → ∃ t c, rec11 b L (IntKind.i64.wrap (tag + 1)) = some (t, c) ∧ Q t) :
 ∀ (k j : Nat) (ts : List GTree) (b : Int), 4 < k + j → (j : Int) ≤ 3 → ts.length ≤ j → ((ts.length : Int) ≤ n) → (∀ x ∈ ts, V x) → (r.1.fLabel = 1 → ∀ x ∈ ts, xN x = false) → ∃ t c, zB.l39 self s l deep l4 tag rec11 r n k b ts (j : Int) = some (t, c) ∧ Q t
 | 0, j, ts, b, h, h', _, _, _, _ => by omega
 | k + 1, j, ts, b, h, h', hj, htn, hV, hZ => by
  rw [zB.l39]
  by_cases hjn : (j : Int) < n
  · obtain ⟨x, c, e, hx⟩ := hone b
    have go : ∀ ts' : List GTree, ts'.length ≤ j + 1 → ((ts'.length : Int) ≤ n) → (∀ x ∈ ts', V x) → (r.1.fLabel = 1 → ∀ x ∈ ts', xN x = false) → ∃ t c', zB.j46 (j : Int) (zB.l39 self s l deep l4 tag rec11 r n k) c ts' = some (t, c') ∧ Q t := by
     intro ts' a1 a2 a3 a4
     rw [zB.j46, yx (by omega) (by omega), show (j : Int) + 1 = ((j + 1 : Nat) : Int) by omega];exact fit_l39 hn h4 hone hrec k (j + 1) ts' c (by omega) (by omega) a1 a2 a3 a4
    rw [if_pos hjn, e, qg];unfold bnd
    dsimp only
    rw [zero10]
    cases hz : (if r.1.fLabel = 1 then !xN x else true) with
    | true =>
     rw [if_pos rfl, xF (by omega), qg];refine go (ts ++ [x]) (by rw [qi, qF]; omega) (by rw [qi, qF]; omega) (fun y hy => ?_) (fun hl y hy => ?_)
     · rcases uw.1 hy with hy | hy
       · exact hV y hy
       rw [uA] at hy; rw [hy]; exact hx
     rcases uw.1 hy with hy | hy
     · exact hZ hl y hy
     rw [uA] at hy; rw [hy]
     rw [if_pos hl, uE] at hz; exact hz
    | false =>
     rw [if_neg uK];exact go ts (by omega) htn hV hZ
  rw [if_neg hjn]
  split
  · rw [xF (by omega), qg, zB.j19];exact hrec b _ (Or.inr ⟨ts, rfl, by omega, htn, hV, hZ⟩)
  rw [zB.j19];exact hrec b _ (Or.inl rfl)
def fitE (s : GSchema) (d : Nat) (m : GMessage) (tag : Int) (L : List GEntry) : Prop := L.Pairwise YY ∧ (∀ e ∈ L, e.fTag < tag ∧ okN (okT s d) s m e ∧ isZ m e = false)
theorem fit_l11 {self : GSchema → GField → List Int → Int → Int → Option (GTree × Int)} {s : GSchema} {l : List Int} {deep : Int} {r : GMessage × Bool} {d : Nat} (hl : l.length < 4611686018427387904) (hone : ∀ (f : GField) b, f ∈ r.1.fFields → (f.fType.fKind = 7 → deep < 5) → ∃ x c, self s f l b deep = some (x, c) ∧ okV (okT s d) s f.fType x) :
 ∀ (k : Nat) (tag : Nat) (b : Int) (L : List GEntry), 501 < k + tag → 1 ≤ tag → tag ≤ 501 → L.length + 1 ≤ tag → fitE s d r.1 (tag : Int) L → ∃ t c, zB.l11 self s l deep r k b L (tag : Int) = some (t, c) ∧ okT s (d + 1) r.1 t
 | 0, tag, b, L, h, _, h', _, _ => by omega
 | k + 1, tag, b, L, h, h1, h', hL, hE => by
  rw [zB.l11]
  by_cases hc : ((decide ((tag : Int) ≤ 500)) && (decide (b < 150))) = true
  · rw [if_pos hc];simp only [qm, decide_eq_true_eq] at hc;have hf : yO r.1 (tag : Int) = zi r.1 (tag : Int) := field_all _ _ _ _
    have more : ∀ b L', (L' = L ∨ ∃ ts : List GTree, L' = L ++ [⟨(tag : Int), ts⟩] ∧ okN (okT s d) s r.1 ⟨(tag : Int), ts⟩ ∧ isZ r.1 ⟨(tag : Int), ts⟩ = false) → ∃ t c, zB.l11 self s l deep r k b L' (IntKind.i64.wrap ((tag : Int) + 1)) = some (t, c) ∧ okT s (d + 1) r.1 t := by
     intro b L' hL'
     rw [yx (by omega) (by omega), show (tag : Int) + 1 = ((tag + 1 : Nat) : Int) by omega]
     rcases hL' with rfl | ⟨ts, rfl, hok, hz⟩
     · exact fit_l11 hl hone k (tag + 1) b L' (by omega) (by omega) (by omega) (by omega) ⟨hE.1, fun e he => ⟨by have := (hE.2 e he).1; omega, (hE.2 e he).2⟩⟩
     refine fit_l11 hl hone k (tag + 1) b _ (by omega) (by omega) (by omega) (by rw [qi, qF]; omega) ⟨?_, fun e he => ?_⟩
     · rw [List.pairwise_append];refine ⟨hE.1, by simp, fun a ha c hcm => ?_⟩
       rw [uA] at hcm; rw [hcm]
       exact (hE.2 a ha).1
     rcases uw.1 he with he | he
     · exact ⟨by have := (hE.2 e he).1; omega, (hE.2 e he).2⟩
     rw [uA] at he; rw [he]
     exact ⟨by rw [wq]; omega, hok, hz⟩
    unfold bnd
    dsimp only
    rw [hf]
    obtain ⟨c1, c2, ec, hc2⟩ : ∃ (c1 : Bool) (c2 : Int), (if (!(zi r.1 (tag : Int)).2) = true then some (true, b) else (wu l b).bind fun r22 => some (decide ((r22.1).tmod 3 = 0), r22.2)) = some (c1, c2) ∧ (c1 = false → (zi r.1 (tag : Int)).2 = true) := by
     cases hk : (zi r.1 (tag : Int)).2 with
     | false => exact ⟨true, b, rfl, fun h => absurd h (by decide)⟩
     | true =>
      obtain ⟨v, b', e, _, _⟩ := next_t l b hl;rw [if_neg (show ¬ (!true) = true by decide), e];exact ⟨_, _, rfl, fun _ => rfl⟩
    rw [ec, qg]
    dsimp only
    by_cases hs : (c1 || ((decide ((zi r.1 (tag : Int)).1.fType.fKind = 7)) && (decide (5 ≤ deep)))) = true
    · rw [if_pos hs, zB.j19];exact more _ _ (Or.inl rfl)
    rw [if_neg hs];simp only [qM, qm, decide_eq_true_eq, not_or, not_and] at hs;have hk : (zi r.1 (tag : Int)).2 = true := hc2 (by simpa using hs.1);obtain ⟨hft, hfm⟩ := XV hk
    have done : ∀ (n : Int) (b : Int), 1 ≤ n → n ≤ 3 → ((zi r.1 (tag : Int)).1.fLabel ≠ 3 → n = 1) → ∃ t c, zB.j29 self s l deep L (tag : Int) (zB.l11 self s l deep r k) (zi r.1 (tag : Int)) b n = some (t, c) ∧ okT s (d + 1) r.1 t := by
     intro n b hn1 hn3 hlab
     rw [zB.j29];refine fit_l39 (V := okV (okT s d) s (zi r.1 (tag : Int)).1.fType) hn3 (by omega) (fun b => hone _ b hfm (fun h7 => by have := hs.2 h7; omega)) (fun b L' hL' => ?_) rounds 0 [] b (by have := yH; omega) (by omega) (qu _) (by rw [ql]; omega) (fun x hx => by cases hx) (fun _ x hx => by cases hx);refine more b L' ?_
     rcases hL' with h | ⟨ts, h, t1, t2, t3, t4⟩
     · exact Or.inl h
     refine Or.inr ⟨ts, h, ⟨⟨by rw [wq]; omega, by rw [wq]; omega⟩, by rw [wq]; exact hk, ⟨by rw [w7]; exact t1, by rw [w7]; omega⟩, fun hne => ?_, by rw [wq, w7]; exact t3⟩, ?_⟩
     · rw [wq] at hne; have := hlab hne; rw [w7]; omega
     unfold isZ;rw [wq, w7]
     by_cases hl1 : (zi r.1 (tag : Int)).1.fLabel = 1
     · cases ts with
       | nil => exact absurd t1 (by decide)
       | cons x ts => rw [List.headD_cons, t4 hl1 x (qp ..), qP]
     rw [decide_eq_false hl1, Bool.false_and]
    by_cases hl3 : (zi r.1 (tag : Int)).1.fLabel = 3
    · obtain ⟨v, b', e, h0, h1'⟩ := next_t l c2 hl;rw [if_pos hl3, e, qg]
      dsimp only
      rw [Int.tmod_eq_emod_of_nonneg h0, yx (by omega) (by omega)];exact done _ _ (by omega) (by omega) (fun h => absurd hl3 h)
    rw [if_neg hl3];exact done 1 _ (by omega) (by omega) (fun _ => rfl)
  rw [if_neg hc];refine ⟨_, _, rfl, rfl, rfl, rfl, hE.1, fun e he => (hE.2 e he).2, List.Pairwise.nil, ?_, fun r hr => by cases hr⟩
  rw [gt_rest]; exact uk _
theorem fit_t {s : GSchema} (hs : kindsS s) {l : List Int} (hl : l.length < 4611686018427387904) : ∀ (k deep : Nat) (n : List UInt8) (b : Int), 1 ≤ deep → deep ≤ 5 → 12 < k + 2 * deep → ∃ t c, zB k s n l b (deep : Int) = some (t, c) ∧ okT s (11 - deep) (va9 s n) t
 | 0, deep, n, b, _, h, h' => by omega
 | 1, deep, n, b, _, h, h' => by omega
 | k + 2, deep, n, b, h1, h5, hk => by
  have hm : yh s n = zC s n := vae _ _ _ _;rw [zB, zB.body, bnd, hm]
  obtain ⟨d, hd⟩ : ∃ d, 11 - deep = d + 1 := ⟨10 - deep, by omega⟩
  rw [hd];refine fit_l11 hl (fun f b hf h7 => ?_) rounds 1 b [] (by have := yH; omega) (by omega) (by omega) (by rw [ql]; omega) ⟨List.Pairwise.nil, fun e he => by cases he⟩;rw [xz]
  refine one_t hl ⟨by omega, by omega⟩ (kinds_msg hs n f hf) fun hk7 b => ?_
  have := h7 hk7;obtain ⟨t, c, e, ht⟩ := fit_t hs hl k (deep + 1) f.fType.fName b (by omega) (by omega) (by omega);refine ⟨t, c, ?_, ?_⟩
  · rw [show (deep : Int) + 1 = ((deep + 1 : Nat) : Int) by omega]; exact e
  rw [show d = 11 - (deep + 1) by omega]; exact ht
theorem Fit_t {s : GSchema} (hs : kindsS s) {l : List Int} (hl : l.length < 4611686018427387904) (n : List UInt8) : ∃ t, Zj s n l = some t ∧ okT s 10 (va9 s n) t := by
 obtain ⟨t, c, e, h⟩ := fit_t hs hl rounds 1 n 0 (by omega) (by omega) (by have := yH; omega);refine ⟨t, ?_, h⟩;have e' : zB rounds s n l 0 1 = some (t, c) := e
 rw [Zj, e']; rfl
end
section
set_option maxRecDepth 4000
open AM
theorem chk_msgs {s : GSchema} (h : zm s = some 0) : 0 < s.fMessages.length ∧ s.fMessages.length ≤ 10 ∧ s.fMethods.length ≤ 6 := by
 rw [zm] at h;obtain ⟨r, _, h⟩ := bind_some h
 split at h
 · cases h
 split at h
 · cases h
 split at h
 · cases h
 rename_i h1 h2
 simp only [qM, decide_eq_true_eq, not_or] at h2
 omega
theorem chkI_l29 {s : GSchema} : ∀ {B A : List GMethod} {i : Int} {nm : List (List UInt8 × Bool)}, (∀ x ∈ B, x.fName.length ≤ 3000) → Rm nm (A.map GMethod.fName) → zm.l29 s B i nm = some 0 → (∀ x ∈ B, (zC s x.fIn).2 = true ∧ (zC s x.fOut).2 = true) ∧ (∀ x ∈ B, x.fName ∉ A.map GMethod.fName) ∧ (B.map GMethod.fName).Nodup
 | [], _, _, _, _, _, _ => ⟨(fun _ h => by cases h), (fun _ h => by cases h), by simp⟩
 | x :: B, A, i, nm, hn, hr, h => by
  obtain ⟨b, e1, e2⟩ := XG hr (hn x (qp ..));rw [zm.l29] at h;unfold bnd at h
  dsimp only at h
  rw [e2, qg] at h
  cases b with
  | false => cases h
  | true =>
   dsimp only at h
   rw [if_neg (show ¬ (!true) = true by decide), if_pos rfl] at h
   split at h
   · cases h
   rename_i hc
   simp only [qM, uE, not_or, Bool.not_eq_false] at hc
   have hx : x.fName ∉ A.map GMethod.fName := by
    intro hm
    rw [yo, fresh_l, if_pos hm] at e1; cases e1
   obtain ⟨h1, h2, h3⟩ := chkI_l29 (A := A ++ [x]) (fun y hy => hn y (qr _ hy)) (by rw [qC]; exact vau hr x.fName) h;refine ⟨fun y hy => ?_, fun y hy => ?_, ?_⟩
   · rcases qK.1 hy with rfl | hy
     · exact hc
     exact h1 y hy
   · rcases qK.1 hy with rfl | hy
     · exact hx
     intro hm
     exact h2 y hy (by rw [qC]; exact uS _ hm)
   rw [qD, uW];refine ⟨fun hm => ?_, h3⟩;obtain ⟨y, hy, hyn⟩ := ux.1 hm;exact h2 y hy (by rw [hyn, qC]; exact uo _ (qp ..))
theorem chkI_l22 {s : GSchema} : ∀ {B : List GEnumeration} {i : Int} {a : List (List UInt8 × Bool)}, zm.l22 s B i a = some 0 → zm.l29 s s.fMethods 0 [] = some 0
 | [], _, _, h => h
 | x :: B, i, a, h => by
  rw [zm.l22] at h;obtain ⟨r, _, h⟩ := bind_some h
  split at h
  · exact chkI_l22 h
  rename_i h0
  exact absurd (Option.some.inj h) h0
theorem chkI_l15' {s : GSchema} : ∀ {B : List GMessage} {i : Int} {a : List (List UInt8 × Bool)}, zm.l15 s B i a = some 0 → zm.l29 s s.fMethods 0 [] = some 0
 | [], _, _, h => chkI_l22 h
 | x :: B, i, a, h => by
  rw [zm.l15] at h;obtain ⟨r, _, h⟩ := bind_some h
  split at h
  · exact chkI_l15' h
  rename_i h0
  exact absurd (Option.some.inj h) h0
theorem chk_meths {s : GSchema} (hn : ∀ x ∈ s.fMethods, x.fName.length ≤ 3000) (h : zm s = some 0) : (∀ x ∈ s.fMethods, (zC s x.fIn).2 = true ∧ (zC s x.fOut).2 = true) ∧ (s.fMethods.map GMethod.fName).Nodup := by
 rw [zm] at h;obtain ⟨r, _, h⟩ := bind_some h
 split at h
 · cases h
 split at h
 · cases h
 split at h
 · cases h
 obtain ⟨h1, _, h3⟩ := chkI_l29 (A := []) hn vcg (chkI_l15' h);exact ⟨h1, h3⟩
theorem meth_found {m : GMethod} : ∀ {l : List GMethod} (i : Int), m ∈ l → (l.map GMethod.fName).Nodup → xi.l4 m.fName l i = (m, true)
 | y :: l, i, h, hn => by
  rw [qD, uW] at hn;rw [xi.l4]
  rcases qK.1 h with rfl | h
  · rw [if_pos rfl]
  rw [if_neg (fun hy => hn.1 (by rw [hy]; exact List.mem_map_of_mem h))];exact meth_found _ h hn.2
end
section
set_option maxRecDepth 4000
open AM
theorem awakeP : xS = some true := by decide +kernel
theorem self_chain {s : GSchema} {p : xH} (hp : yI s p = some (p, true)) : ∀ (n : Nat) (i : Int), xj.l10 (qJ n s) i p true = some (p, true)
 | 0, i => rfl
 | n + 1, i => by
  rw [List.replicate_succ, xj.l10, hp, qg]
  dsimp only
  rw [if_neg (by decide)];exact self_chain hp n _
theorem self_l26 {s : GSchema} {w : Int} {y : GMethod} {r12 : List UInt8 × Int} (hs : szS s) (hp : yI s ⟨3, 1, 0, 0, 2, y.fName, 0, r12.1⟩ = some (⟨3, 1, 0, 0, 2, y.fName, 0, r12.1⟩, true)) : ∀ (k j : Nat), 5 < k + j → j ≤ 5 → law25_ProxySelf.l26 s w y r12 k (qJ j s) (j : Int) = some true
 | 0, j, h, h' => by omega
 | k + 1, j, h, h' => by
  obtain ⟨v, hv, h0, h1⟩ := place_t (v := w) (n := 5) (by decide) (by decide);rw [law25_ProxySelf.l26, hv, qg]
  by_cases hj : (j : Int) < v
  · have e : qJ j s ++ [s] = qJ (j + 1) s := by rw [List.replicate_succ']
    rw [if_pos hj, schema_eq hs, qg, xF (by rw [List.length_replicate]; omega), qg, yx (by omega) (by omega), e, show (j : Int) + 1 = ((j + 1 : Nat) : Int) by omega];exact self_l26 hs hp k (j + 1) (by omega) (by omega)
  rw [if_neg hj, xj, self_chain hp j 0, qg, if_pos (by simp), awakeP]; rfl
theorem self_true {s : GSchema} {w n : Int} {l : List Int} (hs : szS s) (hl : l.length * 8 ≤ 140737488351232) : law25_ProxySelf s w l n = some true := by
 obtain ⟨few, hf⟩ := few_t s;rw [law25_ProxySelf, hf, qg]
 cases few with
 | false => rw [if_pos (show (!false) = true from rfl), qg, uT, uT, if_pos rfl, awakeP]; rfl
 | true =>
  have hn := few_names hs.1 hf;rw [if_neg (show ¬ (!true) = true by decide), check07_eq hn, chkV_eq hs.1, qg, qg]
  by_cases hc : chkV s = 0
  · have hck : zm s = some 0 := by rw [chkV_eq hs.1, hc]
    rw [decide_eq_true hc, qL, uF]
    by_cases hb : (decide ((s.fMethods.length : Int) = 0) || decide (200 < (l.length : Int))) = true
    · rw [if_pos hb, awakeP]; rfl
    have hm := chk_msgs hck;have hb' := hb;simp only [qM, decide_eq_true_eq, not_or] at hb';obtain ⟨r, hr, r0, r1⟩ := place_t (v := w) (n := (s.fMethods.length : Int)) (by omega) (by omega);have hi := YL (l := s.fMethods) (j := r.toNat) (by omega);rw [show ((r.toNat : Nat) : Int) = r by omega] at hi;obtain ⟨hio, hnd⟩ := chk_meths hn.2.2.2 hck;have hmem : (s.fMethods[r.toNat]'(by omega)) ∈ s.fMethods := List.getElem_mem _
    generalize (s.fMethods[r.toNat]'(by omega)) = y at hi hmem
    have hfound := (hio y hmem).1;have hmeth : xi s y.fName = (y, true) := meth_found 0 hmem hnd;obtain ⟨t, hF, hok⟩ := Fit_t (kindsS_of hck) (l := l) (by omega) y.fIn;have hz := okT_sz 10 10 _ t (qu _) hok;have hcT := okT_check (qu _) hok;have he := Encode_eq hz;rw [if_pos ⟨hcT, hok.1⟩] at he;rw [if_neg hb, hr, qg, hi, qg, hF, qg, vbM hz, if_pos ⟨hcT, hok.1⟩, qg]
    cases hE : Xl 10 t with
    | none => rw [vaa, if_neg (by decide), awakeP]; rfl
    | some c =>
     have hd := decode_eq (b := c) hck hfound;rw [decM_back 10 _ t c hok hE] at hd;have hcl := vb6 hE;rw [hE] at he
     have hp : yI s ⟨3, 1, 0, 0, 2, y.fName, 0, c⟩ = some (⟨3, 1, 0, 0, 2, y.fName, 0, c⟩, true) := by
      rw [yI, hck, qg, if_pos rfl, bnd]
      dsimp only
      rw [hmeth]
      dsimp only
      rw [if_neg (by decide), yI.j23, if_neg (by simp), if_neg (by simp), yI.j8]
      dsimp only
      rw [Y8 (by omega), qg, hd, qg, if_pos rfl, he, qg, vaa, if_pos rfl]
     rw [vaa]
     dsimp only
     rw [if_pos rfl];exact self_l26 (r12 := (c, 0)) hs hp rounds 0 (by have := yH; omega) (by omega)
  rw [decide_eq_false hc, qz, uT, uT, if_pos rfl, awakeP]; rfl
end
section
open Go.ChangeShapes Go.WideShapes Go.ChangeAt Go.RowKit Go.Shelf Go.Lib AM
theorem own : ownKnob Tryz.prog.godebug = none := by kernel_rfl
theorem laidOut : laidOutB qh = true := by kernel_rfl
def listed : List (String × DataW Unit) := [("unicode/utf8.acceptRanges", Rows.laid_unicode_utf8_acceptRanges), ("unicode/utf8.first", Rows.laid_unicode_utf8_first)]
noncomputable def laidWorld (os : Os) : World :=
 let w0 := World.holding qh os ⟨#[], #[], []⟩
 let put (h : Array Obj) (g : Nat) (cs : Array Value) : Array Obj := h.modify g fun
  | .cells _ t frozen => .cells cs t frozen
  | o => o
 let h1 := put w0.heap (utf8Ren.g 3) (Lib.firstTab.map fun z => Value.int .u8 z).toArray
 let h2 := put h1 (utf8Ren.g 4) ((uD 16).flatMap fun i => [Value.int .u8 (Lib.accLo i), Value.int .u8 (Lib.accHi i)]).toArray
 { w0 with heap := h2 }
theorem laid_met (os : Os) (args : Array Value) : laidMet qh listed ((laidWorld os).forCall (fun _ _ => 0) ⟨#[], args, []⟩).memory :=
 (LaidIn.of_run (l := listed) [0, 1] 8 (by kernel_rfl) (by kernel_rfl) (by kernel_rfl) (by kernel_rfl)).met
theorem laid_metH (os : Os) (args : Array Value) : laidMetH qh listed ((laidWorld os).forCall (fun _ _ => 0) ⟨#[], args, []⟩).memory := laid_met os args
theorem firstD : Rows.laid_unicode_utf8_first = Lib.firstData := by kernel_rfl
theorem acceptD : (Rows.laid_unicode_utf8_acceptRanges : DataW Unit) = Lib.acceptData := by kernel_rfl
theorem u8types : U8Types qh utf8Ren := ⟨X4.t5, X4.t119, X4.t138, X4.t139⟩
theorem glb_of_laid {W : World} (hL : laidMetH qh listed W) : Glb W fun b => b < W.heap.size := by
 have h' : laidMet qh listed W := hL;have r1 := Lib.laidMet.reads h' (.tail _ (.head _));have r2 := Lib.laidMet.reads h' (.head _);rw [firstD] at r1;rw [acceptD] at r2;have ht : Lib.Utf8Tabs (utf8Ren.g 3) (utf8Ren.g 4) W := utf8Tabs_of_readsT u8types ⟨by kernel_rfl, by kernel_rfl, by kernel_rfl, by kernel_rfl, by kernel_rfl, by kernel_rfl, by kernel_rfl⟩ r1 r2;obtain ⟨t1, t2⟩ := ht
 have lt : ∀ {g o : Nat} {v : Value}, W.cell? ⟨g, o, none⟩ = some v → g < W.heap.size := by
  intro g o v h
  refine Nat.lt_of_not_le fun hle => ?_
  unfold World.cell? at h;rw [Array.getElem?_eq_none hle] at h;cases h
 refine ⟨fun g vs hm => ?_, fun g vs hm i v hv => ?_⟩
 · rcases qK.1 hm with e | hm
   · cases e; exact lt (t1 0 (by decide))
   rcases qK.1 hm with e | hm
   · cases e; exact lt (t2 0 (by decide)).1
   cases hm
 rcases qK.1 hm with e | hm
 · cases e
   have hi : i < 256 := by
    have := (q2.1 hv).1; simpa using this
   rw [List.getElem?_map, List.getElem?_range hi] at hv;cases hv;exact t1 i hi
 rcases qK.1 hm with e | hm
 · cases e
   have hi : i < 32 := by
    have := (q2.1 hv).1; simpa using this
   rw [List.getElem?_map, List.getElem?_range hi] at hv;cases hv;have h1 := t2 (i / 2) (by omega)
   have : i % 2 = 0 ∨ i % 2 = 1 := by omega
   rcases this with h | h
   · have e : 2 * (i / 2) = i := by omega
     rw [e] at h1
     simp only [h, if_true]; exact h1.1
   have e : 2 * (i / 2) + 1 = i := by omega
   rw [e] at h1
   simp only [h]; exact h1.2
 cases hm
end
section
namespace AM
open Go.RowKit Go.ChangeShapes Go.WideShapes Go.Deep
section
variable {H : Type} {enc : TypeId × Value → H} {P : Program} {w : World} {base : Nat} {spare : Nat → Bool} {held : Bool}
def OpensS (enc : TypeId × Value → H) (P : Program) (w : World) (base : Nat) (spare : Nat → Bool) (held : Bool) (N : Nat) (t : TypeId) (A : List AV → Prop) : Prop :=
 ∀ n cs y, DataW.trod enc P w base spare held n t cs = some y → SizeOf.sizeOf y.1 < N → (∀ x ∈ y.1.weights P t, x ≤ reachBytes) → ∃ avs, avs.length = cs.length ∧ A avs ∧ ∀ i, i < avs.length → VR (Env.start w) (gc avs i) (cs.getD i undef)
variable {N : Nat}
theorem OpensS.mono {t : TypeId} {A B : List AV → Prop} (h : OpensS enc P w base spare held N t A) (k : ∀ l, A l → B l) : OpensS enc P w base spare held N t B := fun n cs y hy hN hs => by
 obtain ⟨avs, h1, h2, h3⟩ := h n cs y hy hN hs;exact ⟨avs, h1, k _ h2, h3⟩
theorem OpensS.less {t : TypeId} {A : List AV → Prop} (h : OpensS enc P w base spare held (N + 1) t A) : OpensS enc P w base spare held N t A := fun n cs y hy hN hs => h n cs y hy (by omega) hs
theorem Opens.sized {t : TypeId} {A : List AV → Prop} (h : Opens enc P w base spare held t A) : OpensS enc P w base spare held N t A := fun n cs y hy _ _ => h n cs y hy
theorem opensS_string {t : TypeId} (ht : P.underlying t = some .string) : OpensS enc P w base spare held N t fun l => ∃ s, l = [.str s] ∧ s.length ≤ reachBytes := by
 intro n cs y hy _ hs
 obtain ⟨m, rfl, hy, hl⟩ := DataW.trod_string ht hy;refine ⟨[.str m.data.toList], rfl, ⟨_, rfl, ?_⟩, fun i hi => by simp at hi; subst hi; exact .str _ _ rfl⟩;have := hs m.data.toList.length (by subst hy; simp [DataW.weights])
 simpa using this
def tiles (P : Program) : List Field → Nat → Nat → Bool
 | [], o, e => o == e
 | f :: l, o, e => f.offset == o && tiles P l (o + P.cellsOf f.type) e
theorem tile {cs : List Value} {A : Nat → List AV → Prop} : ∀ (l : List Field) (o k e : Nat), tiles P l o e = true →
 (∀ j f, l[j]? = some f → ∃ avs : List AV, avs.length = P.cellsOf f.type ∧ A (k + j) avs ∧ ∀ i, i < avs.length → VR (Env.start w) (gc avs i) (cs.getD (f.offset + i) undef)) →
 ∃ parts : List (List AV), parts.length = l.length ∧ (∀ j, j < l.length → A (k + j) (parts.getD j [])) ∧ o + parts.flatten.length = e ∧ ∀ i, i < parts.flatten.length → VR (Env.start w) (gc parts.flatten i) (cs.getD (o + i) undef)
 | [], o, k, e, h, _ => ⟨[], rfl, (fun j hj => by simp at hj), by simpa [tiles] using h, (fun i hi => by simp at hi)⟩
 | f :: l, o, k, e, h, hA => by
  simp only [tiles, qm, beq_iff_eq] at h;obtain ⟨avs, a1, a2, a3⟩ := hA 0 f rfl
  obtain ⟨parts, p1, p2, p3, p4⟩ := tile l (o + P.cellsOf f.type) (k + 1) e h.2 fun j g hg => by
   obtain ⟨x, x1, x2, x3⟩ := hA (j + 1) g (by simpa using hg);exact ⟨x, x1, by rw [show k + 1 + j = k + (j + 1) by omega]; exact x2, x3⟩
  refine ⟨avs :: parts, by simp [p1], ?_, by rw [List.flatten_cons, qi]; omega, ?_⟩
  · intro j hj
    cases j with
    | zero => simpa using a2
    | succ j =>
     have := p2 j (by simpa using hj);rw [show k + 1 + j = k + (j + 1) by omega] at this
     simpa using this
  intro i hi
  rw [List.flatten_cons] at hi ⊢
  by_cases hlt : i < avs.length
  · have := a3 i hlt;rw [h.1] at this;rw [gc, qv, qR hlt]
    simpa [gc, qv] using this
  rw [qi] at hi;have := p4 (i - avs.length) (by omega);rw [show o + P.cellsOf f.type + (i - avs.length) = o + i by omega] at this;rw [gc, qv, uh (by omega)]
  simpa [gc, qv] using this
theorem mem_weightsEach {x : Nat} : ∀ {ts : List TypeId} {ds : List (DataW H)} (j : Nat) (t : TypeId) (d : DataW H), ts[j]? = some t → ds[j]? = some d → x ∈ d.weights P t → x ∈ DataW.weightsEach P ts ds
 | [], _, j, t, d, h, _, _ => by simp at h
 | _ :: _, [], j, t, d, _, h, _ => by simp at h
 | t' :: ts, d' :: ds, j, t, d, ht, hd, hx => by
  rw [DataW.weightsEach, uw]
  cases j with
  | zero =>
   simp at ht hd; subst ht hd; exact Or.inl hx
  | succ j => exact Or.inr (mem_weightsEach j t d (by simpa using ht) (by simpa using hd) hx)
theorem XR {x : Nat} {e : TypeId} : ∀ {ds : List (DataW H)} {d : DataW H}, d ∈ ds → x ∈ d.weights P e → x ∈ DataW.weightsAll P e ds
 | [], _, h, _ => by cases h
 | d' :: ds, d, h, hx => by
  rw [DataW.weightsAll, uw]
  rcases qK.1 h with rfl | h
  · exact Or.inl hx
  exact Or.inr (XR h hx)
theorem wT {t : TypeId} {fs : Array Field} (ht : P.underlying t = some (.struct fs)) (hC : tiles P fs.toList 0 (P.cellsOf t) = true) {A : Nat → List AV → Prop}
 (hA : ∀ j f, fs[j]? = some f → OpensS enc P w base spare held N f.type (A j)) : OpensS enc P w base spare held (N + 1) t fun l => ∃ parts : List (List AV), l = parts.flatten ∧ parts.length = fs.size ∧ ∀ j, j < fs.size → A j (parts.getD j []) := by
 intro n cs y hy hN hs
 obtain ⟨ys, n', _, he, hlen, hyl, hf⟩ := DataW.trod_struct ht hy
 have hends : ∀ (l : List Field) (o e : Nat), tiles P l o e = true → o ≤ e ∧ ∀ (j : Nat) (f : Field), l[j]? = some f → f.offset + P.cellsOf f.type ≤ e := by
  intro l
  induction l with
  | nil => intro o e h; simp [tiles] at h; exact ⟨by omega, fun j f h => by simp at h⟩
  | cons f l ih =>
   intro o e h
   simp only [tiles, qm, beq_iff_eq] at h;obtain ⟨h1, h2⟩ := ih _ _ h.2;refine ⟨by omega, fun j g hg => ?_⟩
   cases j with
   | zero => simp at hg; subst hg; omega
   | succ j => exact h2 j g (by simpa using hg)
 obtain ⟨parts, p1, p2, p3, p4⟩ := tile (w := w) (cs := cs) (A := A) fs.toList 0 0 (P.cellsOf t) hC fun j f hj => by
  have hfj : fs[j]? = some f := by simpa using hj
  have hlt : j < fs.size := (Array.getElem?_eq_some_iff.1 hfj).1;have h1 := hf j f hfj;rw [qX (by omega)] at h1;have hend := (hends _ _ _ hC).2 j f hj;have hm : ys[j]'(by omega) ∈ ys := List.getElem_mem _
  have hsz : SizeOf.sizeOf (ys[j]'(by omega)).1 < N := by
   have h2 : (ys[j]'(by omega)).1 ∈ ys.map (·.1) := List.mem_map_of_mem hm;have h3 := List.sizeOf_lt_of_mem h2;rw [he] at hN;simp only [DataW.agg.sizeOf_spec] at hN
   omega
  obtain ⟨avs, e1, e2, e3⟩ := hA j f hfj _ _ _ h1 hsz fun x hx => hs x (by
   rw [he, DataW.weights, ht]
   exact mem_weightsEach j f.type _ (by simp [hj]) (by rw [List.getElem?_map, qX (by omega)]; rfl) hx)
  have hl1 : avs.length = P.cellsOf f.type := by rw [e1, uI, uJ]; omega
  refine ⟨avs, hl1, by rw [qn]; exact e2, fun i hi => ?_⟩;have h4 := e3 i hi
  have h5 : ((cs.drop f.offset).take (P.cellsOf f.type)).getD i undef = cs.getD (f.offset + i) undef := by
   simp only [qv];rw [List.getElem?_take_of_lt (by omega), List.getElem?_drop]
  rw [h5] at h4; exact h4
 refine ⟨parts.flatten, by omega, ⟨parts, rfl, by simpa using p1, fun j hj => ?_⟩, fun i hi => ?_⟩
 · have := p2 j (by simpa using hj)
   rwa [qn] at this
 have := p4 i hi
 rwa [qn] at this
theorem Zu {t e : TypeId} (ht : P.underlying t = some (.slice e)) (hpos : 0 < P.cellsOf e) {A : List AV → Prop} (hA : OpensS enc P w base spare held N e A) :
 OpensS enc P w base spare held (N + 1) t fun l => ∃ es, l = [.ds true (List.flatten es) (qb es) false] ∧ (∀ x ∈ es, A x ∧ x.length = P.cellsOf e) ∧ es.length * P.bytesOf e ≤ reachBytes ∧ es.length ≤ maxLen := by
 intro n cs y hy hN hs
 rcases open_slice ht hy with ⟨rfl, _⟩ | ⟨a, len, cap, m, n', D, Pl, rfl, _, hl, hm, hmm, hye, hi⟩
 · refine ⟨[.ds true [] 0 false], rfl, ⟨[], by simp, by simp, by simp, by simp⟩, fun i hi => ?_⟩
   simp at hi; subst hi; exact .dsn _
 have hlm : len ≤ m := by rw [hmm]; split <;> omega
 have hlen : len * P.bytesOf e ≤ reachBytes := by
  have := hs ((((uD len).map D).length + ((uD (m - len)).map fun j => D (len + j)).length) * P.bytesOf e) (by rw [hye]; simp only [DataW.weights, ht]; exact qp ..);rw [q7, List.length_range] at this;exact ur (qZ _ (Nat.le_add_right _ _)) this
 have each : ∀ i, i < len → ∃ avs : List AV, avs.length = P.cellsOf e ∧ A avs ∧ ∀ j, j < avs.length → ∃ v, w.cell? ((a.add (i * P.cellsOf e)).add j) = some v ∧ VR (Env.start w) (gc avs j) v := by
  intro i hil
  obtain ⟨cs', h1, h2⟩ := hi i (by omega);obtain ⟨_, hcl, hat⟩ := World.cells?_some h1;have hmem : D i ∈ (uD len).map D := List.mem_map_of_mem (List.mem_range.2 hil)
  have hsz : SizeOf.sizeOf (D i) < N := by
   have h3 := List.sizeOf_lt_of_mem hmem;rw [hye] at hN;simp only [DataW.slice.sizeOf_spec] at hN
   omega
  obtain ⟨avs, e1, e2, e3⟩ := hA _ _ _ h2 hsz fun x hx => hs x (by
   rw [hye]; simp only [DataW.weights, ht]
   exact qr _ (uS _ (XR hmem hx)))
  refine ⟨avs, by omega, e2, fun j hj => ⟨cs'.getD j undef, ?_, e3 j hj⟩⟩
  rw [hat j (by omega), qv, qX (by omega)]; rfl
 obtain ⟨g, hg⟩ := Classical.axiomOfChoice (r := fun (i : Fin len) (avs : List AV) => avs.length = P.cellsOf e ∧ A avs ∧ ∀ j, j < avs.length → ∃ v, w.cell? ((a.add (i.1 * P.cellsOf e)).add j) = some v ∧ VR (Env.start w) (gc avs j) v) (fun i => each i.1 i.2)
 have hes : ∀ x ∈ List.ofFn g, A x ∧ x.length = P.cellsOf e := by
  intro x hx
  obtain ⟨i, rfl⟩ := List.mem_ofFn.1 hx;exact ⟨(hg i).2.1, (hg i).1⟩
 refine ⟨[.ds true (List.ofFn g).flatten (List.ofFn g).length false], rfl, ⟨_, rfl, hes, by simpa using hlen, by simp; omega⟩, fun i hi => ?_⟩
 simp at hi; subst hi
 have hfl := length_flat (es := List.ofFn g) (sz := P.cellsOf e) fun x hx => (hes x hx).2
 have hsp : (List.ofFn g).flatten.length ≠ 0 → a.spot = none := by
  intro h0
  rw [hfl] at h0
  have hl0 : 0 < len := by
   rcases Nat.eq_zero_or_pos len with h | h
   · subst h; simp at h0
   exact h
  obtain ⟨v, h1, _⟩ := (hg ⟨0, hl0⟩).2.2 0 (by rw [(hg ⟨0, hl0⟩).1]; exact hpos);have := World.cell?_spot h1
  simpa [Addr.add] using this
 have hcell : ∀ k, k < (List.ofFn g).flatten.length → ∃ v, w.cell? ⟨a.block, a.off + k, none⟩ = some v ∧ VR (Env.start w) (gc (List.ofFn g).flatten k) v := by
  intro k hk
  have hs := hsp (by omega);rw [hfl] at hk;simp only [List.length_ofFn] at hk;have hd : k / P.cellsOf e < len := Nat.div_lt_of_lt_mul (by rw [Nat.mul_comm]; exact hk);have hmd : k % P.cellsOf e < P.cellsOf e := Nat.mod_lt _ hpos
  have hsplit : k / P.cellsOf e * P.cellsOf e + k % P.cellsOf e = k := by rw [Nat.mul_comm]; exact Nat.div_add_mod _ _
  obtain ⟨v, h1, h2⟩ := (hg ⟨_, hd⟩).2.2 (k % P.cellsOf e) (by rw [(hg ⟨_, hd⟩).1]; exact hmd);refine ⟨v, ?_, ?_⟩
  · rw [add_spot hs, add_spot rfl] at h1;simp only at h1
    rw [u3, hsplit] at h1; exact h1
  have := gc_flat (es := List.ofFn g) (fun x hx => (hes x hx).2) (k / P.cellsOf e) (k % P.cellsOf e) hmd (by simpa using hd);rw [hsplit] at this
  rw [this]; simpa using h2
 obtain ⟨vs, hvs⟩ : ∃ vs : Nat → Value, ∀ k, k < (List.ofFn g).flatten.length → w.cell? ⟨a.block, a.off + k, none⟩ = some (vs k) ∧ VR (Env.start w) (gc (List.ofFn g).flatten k) (vs k) := by
  refine ⟨fun k => (w.cell? ⟨a.block, a.off + k, none⟩).getD undef, fun k hk => ?_⟩;obtain ⟨v, h1, h2⟩ := hcell k hk
  simp only [h1, uN]; exact ⟨trivial, h2⟩
 show VR (Env.start w) (.ds true _ _ false) (.slice (some a) len cap)
 rw [List.length_ofFn];refine .ds _ _ _ _ a cap vs ?_ ?_ (fun k hk => (hvs k hk).2) hl (fun h => by cases h) ?_
 · by_cases h0 : (List.ofFn g).flatten.length = 0
   · exact .inl (qI.1 h0)
   exact .inr (hsp h0)
 · by_cases h0 : (List.ofFn g).flatten.length = 0
   · exact .inl h0
   refine .inr ⟨?_, fun k hk => (hvs k hk).1⟩;obtain ⟨_, h, _⟩ := hcell 0 (by omega);exact cell_lt (a := ⟨a.block, a.off + 0, none⟩) h
 unfold maxLen at *; omega
theorem OpensS.arg {t : TypeId} {A : List AV → Prop} (h : ∀ N, OpensS enc P w base spare held N t A) {v : Value} {d : DataW H} {p : List MemPlace} (hv : DataW.Trod enc P w base spare held t v d p) (hw : ∀ x ∈ d.weights P t, x ≤ reachBytes) (h1 : v.cells.toList = [v]) : ∃ a, A [a] ∧ VR (Env.start w) a v := by
 obtain ⟨n, hn⟩ := hv;obtain ⟨avs, e1, e2, e3⟩ := h _ _ _ _ hn (qs _) hw;rw [h1] at e1 e3
 match avs, e1 with
 | [a], _ => exact ⟨a, e2, by simpa [gc] using e3 0 (by simp)⟩
theorem OpensS.agg {t : TypeId} {A : List AV → Prop} (h : ∀ N, OpensS enc P w base spare held N t A) {vs : Array Value} {d : DataW H} {p : List MemPlace} (hv : DataW.Trod enc P w base spare held t (.agg vs) d p) (hw : ∀ x ∈ d.weights P t, x ≤ reachBytes) : ∃ l, A l ∧ VR (Env.start w) (.agg l) (.agg vs) := by
 obtain ⟨n, hn⟩ := hv;obtain ⟨avs, e1, e2, e3⟩ := h _ _ _ _ hn (qs _) hw;refine ⟨avs, e2, .agg _ _ (by simpa [Value.cells] using e1.symm) fun i hi => ?_⟩;have := e3 i hi
 simpa [Value.cells, qv, uy] using this
end
end AM
open AM
theorem vaN {α : Type} {e : α → List AV} {p : α → Prop} {es : List (List AV)} (h : ∀ x ∈ es, ∃ y : α, x = e y ∧ p y) : ∃ zs : List α, es.flatten = zs.flatMap e ∧ zs.length = es.length ∧ ∀ z ∈ zs, p z := by
 induction es with
 | nil => exact ⟨[], rfl, rfl, fun z hz => by cases hz⟩
 | cons x es ih =>
  obtain ⟨zs, h1, h2, h3⟩ := ih fun y hy => h y (by simp [hy])
  obtain ⟨y, rfl, hp⟩ := h x (by simp);refine ⟨y :: zs, by simp [h1], by simp [h2], fun z hz => ?_⟩
  rcases qK.1 hz with rfl | hz
  · exact hp
  exact h3 z hz
def in64 (n : Int) : Prop := -9223372036854775808 ≤ n ∧ n < 9223372036854775808
theorem wf64 {n : Int} (h : (Lit.int .i64 n).wf = true) : in64 n := by
 simp only [Lit.wf, IntKind.min, IntKind.max, IntKind.signed, IntKind.bits, qm, decide_eq_true_eq, if_true] at h
 unfold in64; omega
section
variable {H : Type} {enc : TypeId × Value → H} {w : World} {base : Nat} {spare : Nat → Bool} {held : Bool} {N : Nat}
theorem YJ : OpensS enc qh w base spare held N 3 fun x => ∃ n, x = [.int .i64 n] ∧ in64 n :=
 ((opens_int Tryz.underlying3).mono fun x ⟨n, h1, h2⟩ => ⟨n, h1, wf64 h2⟩).sized
theorem Zy : OpensS enc qh w base spare held N 9 fun x => ∃ s, x = [.str s] ∧ s.length ≤ 140737488351232 := opensS_string Tryz.underlying9
theorem opens_ints (N : Nat) : OpensS enc qh w base spare held N 45 fun x => ∃ zs : List Int, x = [AV.ds true (zs.flatMap encI) zs.length false] ∧ zs.length * 8 ≤ 140737488351232 ∧ ∀ z ∈ zs, in64 z := by
 refine ((Zu (N := N) Tryz.underlying45 (by decide +kernel) YJ).mono ?_).less;rintro x ⟨es, rfl, h1, h2, _⟩
 obtain ⟨l, e1, e2, e3⟩ := vaN (e := encI) (p := in64) fun y hy => (h1 y hy).1
 rw [show Tryz.prog.bytesOf 3 = 8 by kernel_rfl] at h2;exact ⟨l, by rw [e1, e2], by rw [e2]; exact h2, e3⟩
end
end
section
open AM
section
variable {H : Type} {enc : TypeId × Value → H} {w : World} {base : Nat} {spare : Nat → Bool} {held : Bool}
end
end
section
open AM
def okType (y : GType) : Prop := in64 y.fKind ∧ y.fName.length ≤ 140737488351232
def okField (y : GField) : Prop := y.fName.length ≤ 140737488351232 ∧ in64 y.fTag ∧ in64 y.fLabel ∧ okType y.fType
def vad (y : GMessage) : Prop := y.fName.length ≤ 140737488351232 ∧ (y.fFields.length * 56 ≤ 140737488351232 ∧ ∀ v ∈ y.fFields, okField v) ∧ (y.fReserved.length * 8 ≤ 140737488351232 ∧ ∀ v ∈ y.fReserved, in64 v)
def okNamed (y : GNamed) : Prop := y.fName.length ≤ 140737488351232 ∧ in64 y.fN
def Yc (y : GEnumeration) : Prop := y.fName.length ≤ 140737488351232 ∧ (y.fValues.length * 24 ≤ 140737488351232 ∧ ∀ v ∈ y.fValues, okNamed v)
def vbj (y : GMethod) : Prop := y.fName.length ≤ 140737488351232 ∧ y.fIn.length ≤ 140737488351232 ∧ y.fOut.length ≤ 140737488351232
def okSchema (y : GSchema) : Prop := y.fName.length ≤ 140737488351232 ∧ (y.fMessages.length * 64 ≤ 140737488351232 ∧ ∀ v ∈ y.fMessages, vad v) ∧ (y.fEnums.length * 40 ≤ 140737488351232 ∧ ∀ v ∈ y.fEnums, Yc v) ∧ (y.fMethods.length * 48 ≤ 140737488351232 ∧ ∀ v ∈ y.fMethods, vbj v)
section
variable {H : Type} {enc : TypeId × Value → H} {w : World} {base : Nat} {spare : Nat → Bool} {held : Bool}
theorem opens_Type (N : Nat) : OpensS enc qh w base spare held N 55 fun x => ∃ y : GType, x = encGType y ∧ okType y := by
 refine ((wT (N := N) (A := fun j x => if j = 0 then ∃ z : Int, x = [.int .i64 z] ∧ in64 z else if j = 1 then ∃ z : List UInt8, x = [.str z] ∧ z.length ≤ 140737488351232 else False) Tryz.underlying55 (by decide +kernel) ?_).mono ?_).less
 · intro j f hf
   match j with
   | 0 => cases hf; exact YJ
   | 1 => cases hf; exact Zy
   | j + 2 => simp at hf
 rintro x ⟨parts, rfl, hl, hx⟩;obtain ⟨a0, e0, w0⟩ := hx 0 (by decide);obtain ⟨a1, e1, w1⟩ := hx 1 (by decide);refine ⟨⟨a0, a1⟩, ?_, w0, w1⟩
 match parts, hl with
 | [p0, p1], _ =>
  simp only [List.getD_cons_zero, List.getD_cons_succ] at e0 e1
  subst e0 e1; rfl
theorem opens_Field (N : Nat) : OpensS enc qh w base spare held N 57 fun x => ∃ y : GField, x = encGField y ∧ okField y := by
 refine ((wT (N := N) (A := fun j x => if j = 0 then ∃ z : List UInt8, x = [.str z] ∧ z.length ≤ 140737488351232 else if j = 1 then ∃ z : Int, x = [.int .i64 z] ∧ in64 z else if j = 2 then ∃ z : Int, x = [.int .i64 z] ∧ in64 z else if j = 3 then ∃ z : GType, x = encGType z ∧ okType z else False) Tryz.underlying57 (by decide +kernel) ?_).mono ?_).less
 · intro j f hf
   match j with
   | 0 => cases hf; exact Zy
   | 1 => cases hf; exact YJ
   | 2 => cases hf; exact YJ
   | 3 => cases hf; exact opens_Type N
   | j + 4 => simp at hf
 rintro x ⟨parts, rfl, hl, hx⟩;obtain ⟨a0, e0, w0⟩ := hx 0 (by decide);obtain ⟨a1, e1, w1⟩ := hx 1 (by decide);obtain ⟨a2, e2, w2⟩ := hx 2 (by decide);obtain ⟨a3, e3, w3⟩ := hx 3 (by decide);refine ⟨⟨a0, a1, a2, a3⟩, ?_, w0, w1, w2, w3⟩
 match parts, hl with
 | [p0, p1, p2, p3], _ =>
  simp only [List.getD_cons_zero, List.getD_cons_succ] at e0 e1 e2 e3
  subst e0 e1 e2 e3; rfl
theorem opens_Fields (N : Nat) : OpensS enc qh w base spare held N 47 fun x => ∃ zs : List GField, x = [AV.ds true (zs.flatMap encGField) zs.length false] ∧ zs.length * 56 ≤ 140737488351232 ∧ ∀ y ∈ zs, okField y := by
 refine ((Zu (N := N) Tryz.underlying47 (by decide +kernel) (opens_Field N)).mono ?_).less;rintro x ⟨es, rfl, h1, h2, _⟩
 obtain ⟨l, e1, e2, e3⟩ := vaN fun y hy => (h1 y hy).1
 rw [show Tryz.prog.bytesOf 57 = 56 by kernel_rfl] at h2;exact ⟨l, by rw [e1, e2], by rw [e2]; exact h2, e3⟩
theorem opens_Message (N : Nat) : OpensS enc qh w base spare held N 49 fun x => ∃ y : GMessage, x = encGMessage y ∧ vad y := by
 refine ((wT (N := N) (A := fun j x => if j = 0 then ∃ z : List UInt8, x = [.str z] ∧ z.length ≤ 140737488351232 else if j = 1 then ∃ z : List GField, x = [AV.ds true (qe encGField z) (qb z) false] ∧ (z.length * 56 ≤ 140737488351232 ∧ ∀ v ∈ z, okField v) else if j = 2 then ∃ z : List Int, x = [AV.ds true (qe encI z) (qb z) false] ∧ (z.length * 8 ≤ 140737488351232 ∧ ∀ v ∈ z, in64 v) else False) Tryz.underlying49 (by decide +kernel) ?_).mono ?_).less
 · intro j f hf
   match j with
   | 0 => cases hf; exact Zy
   | 1 => cases hf; exact opens_Fields N
   | 2 => cases hf; exact opens_ints N
   | j + 3 => simp at hf
 rintro x ⟨parts, rfl, hl, hx⟩;obtain ⟨a0, e0, w0⟩ := hx 0 (by decide);obtain ⟨a1, e1, w1⟩ := hx 1 (by decide);obtain ⟨a2, e2, w2⟩ := hx 2 (by decide);refine ⟨⟨a0, a1, a2⟩, ?_, w0, w1, w2⟩
 match parts, hl with
 | [p0, p1, p2], _ =>
  simp only [List.getD_cons_zero, List.getD_cons_succ] at e0 e1 e2
  subst e0 e1 e2; rfl
theorem opens_Messages (N : Nat) : OpensS enc qh w base spare held N 22 fun x => ∃ zs : List GMessage, x = [AV.ds true (zs.flatMap encGMessage) zs.length false] ∧ zs.length * 64 ≤ 140737488351232 ∧ ∀ y ∈ zs, vad y := by
 refine ((Zu (N := N) Tryz.underlying22 (by decide +kernel) (opens_Message N)).mono ?_).less;rintro x ⟨es, rfl, h1, h2, _⟩
 obtain ⟨l, e1, e2, e3⟩ := vaN fun y hy => (h1 y hy).1
 rw [show Tryz.prog.bytesOf 49 = 64 by kernel_rfl] at h2;exact ⟨l, by rw [e1, e2], by rw [e2]; exact h2, e3⟩
theorem opens_Named (N : Nat) : OpensS enc qh w base spare held N 86 fun x => ∃ y : GNamed, x = encGNamed y ∧ okNamed y := by
 refine ((wT (N := N) (A := fun j x => if j = 0 then ∃ z : List UInt8, x = [.str z] ∧ z.length ≤ 140737488351232 else if j = 1 then ∃ z : Int, x = [.int .i64 z] ∧ in64 z else False) Tryz.underlying86 (by decide +kernel) ?_).mono ?_).less
 · intro j f hf
   match j with
   | 0 => cases hf; exact Zy
   | 1 => cases hf; exact YJ
   | j + 2 => simp at hf
 rintro x ⟨parts, rfl, hl, hx⟩;obtain ⟨a0, e0, w0⟩ := hx 0 (by decide);obtain ⟨a1, e1, w1⟩ := hx 1 (by decide);refine ⟨⟨a0, a1⟩, ?_, w0, w1⟩
 match parts, hl with
 | [p0, p1], _ =>
  simp only [List.getD_cons_zero, List.getD_cons_succ] at e0 e1
  subst e0 e1; rfl
theorem opens_Nameds (N : Nat) : OpensS enc qh w base spare held N 82 fun x => ∃ zs : List GNamed, x = [AV.ds true (zs.flatMap encGNamed) zs.length false] ∧ zs.length * 24 ≤ 140737488351232 ∧ ∀ y ∈ zs, okNamed y := by
 refine ((Zu (N := N) Tryz.underlying82 (by decide +kernel) (opens_Named N)).mono ?_).less;rintro x ⟨es, rfl, h1, h2, _⟩
 obtain ⟨l, e1, e2, e3⟩ := vaN fun y hy => (h1 y hy).1
 rw [show Tryz.prog.bytesOf 86 = 24 by kernel_rfl] at h2;exact ⟨l, by rw [e1, e2], by rw [e2]; exact h2, e3⟩
theorem vaH (N : Nat) : OpensS enc qh w base spare held N 84 fun x => ∃ y : GEnumeration, x = encGEnumeration y ∧ Yc y := by
 refine ((wT (N := N) (A := fun j x => if j = 0 then ∃ z : List UInt8, x = [.str z] ∧ z.length ≤ 140737488351232 else if j = 1 then ∃ z : List GNamed, x = [AV.ds true (qe encGNamed z) (qb z) false] ∧ (z.length * 24 ≤ 140737488351232 ∧ ∀ v ∈ z, okNamed v) else False) Tryz.underlying84 (by decide +kernel) ?_).mono ?_).less
 · intro j f hf
   match j with
   | 0 => cases hf; exact Zy
   | 1 => cases hf; exact opens_Nameds N
   | j + 2 => simp at hf
 rintro x ⟨parts, rfl, hl, hx⟩;obtain ⟨a0, e0, w0⟩ := hx 0 (by decide);obtain ⟨a1, e1, w1⟩ := hx 1 (by decide);refine ⟨⟨a0, a1⟩, ?_, w0, w1⟩
 match parts, hl with
 | [p0, p1], _ =>
  simp only [List.getD_cons_zero, List.getD_cons_succ] at e0 e1
  subst e0 e1; rfl
theorem vac (N : Nat) : OpensS enc qh w base spare held N 23 fun x => ∃ zs : List GEnumeration, x = [AV.ds true (zs.flatMap encGEnumeration) zs.length false] ∧ zs.length * 40 ≤ 140737488351232 ∧ ∀ y ∈ zs, Yc y := by
 refine ((Zu (N := N) Tryz.underlying23 (by decide +kernel) (vaH N)).mono ?_).less;rintro x ⟨es, rfl, h1, h2, _⟩
 obtain ⟨l, e1, e2, e3⟩ := vaN fun y hy => (h1 y hy).1
 rw [show Tryz.prog.bytesOf 84 = 40 by kernel_rfl] at h2;exact ⟨l, by rw [e1, e2], by rw [e2]; exact h2, e3⟩
theorem opens_Method (N : Nat) : OpensS enc qh w base spare held N 75 fun x => ∃ y : GMethod, x = encGMethod y ∧ vbj y := by
 refine ((wT (N := N) (A := fun j x => if j = 0 then ∃ z : List UInt8, x = [.str z] ∧ z.length ≤ 140737488351232 else if j = 1 then ∃ z : List UInt8, x = [.str z] ∧ z.length ≤ 140737488351232 else if j = 2 then ∃ z : List UInt8, x = [.str z] ∧ z.length ≤ 140737488351232 else False) Tryz.underlying75 (by decide +kernel) ?_).mono ?_).less
 · intro j f hf
   match j with
   | 0 => cases hf; exact Zy
   | 1 => cases hf; exact Zy
   | 2 => cases hf; exact Zy
   | j + 3 => simp at hf
 rintro x ⟨parts, rfl, hl, hx⟩;obtain ⟨a0, e0, w0⟩ := hx 0 (by decide);obtain ⟨a1, e1, w1⟩ := hx 1 (by decide);obtain ⟨a2, e2, w2⟩ := hx 2 (by decide);refine ⟨⟨a0, a1, a2⟩, ?_, w0, w1, w2⟩
 match parts, hl with
 | [p0, p1, p2], _ =>
  simp only [List.getD_cons_zero, List.getD_cons_succ] at e0 e1 e2
  subst e0 e1 e2; rfl
theorem opens_Methods (N : Nat) : OpensS enc qh w base spare held N 24 fun x => ∃ zs : List GMethod, x = [AV.ds true (zs.flatMap encGMethod) zs.length false] ∧ zs.length * 48 ≤ 140737488351232 ∧ ∀ y ∈ zs, vbj y := by
 refine ((Zu (N := N) Tryz.underlying24 (by decide +kernel) (opens_Method N)).mono ?_).less;rintro x ⟨es, rfl, h1, h2, _⟩
 obtain ⟨l, e1, e2, e3⟩ := vaN fun y hy => (h1 y hy).1
 rw [show Tryz.prog.bytesOf 75 = 48 by kernel_rfl] at h2;exact ⟨l, by rw [e1, e2], by rw [e2]; exact h2, e3⟩
theorem opens_Schema (N : Nat) : OpensS enc qh w base spare held N 26 fun x => ∃ y : GSchema, x = encGSchema y ∧ okSchema y := by
 refine ((wT (N := N) (A := fun j x => if j = 0 then ∃ z : List UInt8, x = [.str z] ∧ z.length ≤ 140737488351232 else if j = 1 then ∃ z : List GMessage, x = [AV.ds true (qe encGMessage z) (qb z) false] ∧ (z.length * 64 ≤ 140737488351232 ∧ ∀ v ∈ z, vad v) else if j = 2 then ∃ z : List GEnumeration, x = [AV.ds true (qe encGEnumeration z) (qb z) false] ∧ (z.length * 40 ≤ 140737488351232 ∧ ∀ v ∈ z, Yc v) else if j = 3 then ∃ z : List GMethod, x = [AV.ds true (qe encGMethod z) (qb z) false] ∧ (z.length * 48 ≤ 140737488351232 ∧ ∀ v ∈ z, vbj v) else False) Tryz.underlying26 (by decide +kernel) ?_).mono ?_).less
 · intro j f hf
   match j with
   | 0 => cases hf; exact Zy
   | 1 => cases hf; exact opens_Messages N
   | 2 => cases hf; exact vac N
   | 3 => cases hf; exact opens_Methods N
   | j + 4 => simp at hf
 rintro x ⟨parts, rfl, hl, hx⟩;obtain ⟨a0, e0, w0⟩ := hx 0 (by decide);obtain ⟨a1, e1, w1⟩ := hx 1 (by decide);obtain ⟨a2, e2, w2⟩ := hx 2 (by decide);obtain ⟨a3, e3, w3⟩ := hx 3 (by decide);refine ⟨⟨a0, a1, a2, a3⟩, ?_, w0, w1, w2, w3⟩
 match parts, hl with
 | [p0, p1, p2, p3], _ =>
  simp only [List.getD_cons_zero, List.getD_cons_succ] at e0 e1 e2 e3
  subst e0 e1 e2 e3; rfl
end
end
section
open AM
section
variable {H : Type} {enc : TypeId × Value → H} {w : World} {base : Nat} {spare : Nat → Bool} {held : Bool}
end
theorem szS_of {s : GSchema} (h : okSchema s) : szS s :=
 ⟨⟨h.1, fun m hm => ⟨(h.2.1.2 m hm).1, fun f hf => ((h.2.1.2 m hm).2.1.2 f hf).1⟩, fun e he => ⟨(h.2.2.1.2 e he).1, fun v hv => ((h.2.2.1.2 e he).2.2 v hv).1⟩, fun x hx => (h.2.2.2.2 x hx).1⟩,
  h.2.1.1, h.2.2.1.1, h.2.2.2.1, fun m hm => ⟨(h.2.1.2 m hm).2.1.1, (h.2.1.2 m hm).2.2.1⟩, fun e he => (h.2.2.1.2 e he).2.1⟩
end
end Go.Proofs.YtaddlmlpeghonaaGreatDoor
