/- Parts of the proof, cut down to what it needs. -/
import Derived.Test.YtaddlmlpeghonaaGreatDoorMCf
set_option linter.constructorNameAsVariable false
set_option linter.unusedSimpArgs false
set_option linter.unusedVariables false
namespace Go.Proofs.YtaddlmlpeghonaaGreatDoor
open _root_.List renaming length → qb, flatMap → qe, length_append → qi, length_cons → qj, length_nil → ql, append_assoc → qp, mem_cons_of_mem → qs, mem_cons_self → qt, getD_eq_getElem?_getD → qv, map_nil → qw, drop_zero → qy, nil_append → qz, append_nil → qB, map_append → qD, cons_append → qE, length_eq_zero_iff → qF, map_cons → qG, length_singleton → qJ, mem_cons → qM, replicate → qP, getElem?_append_left → qS, flatMap_cons → qT, flatMap_append → qV, range_zero → qW, all_cons → qY, getElem?_eq_getElem → qZ, range_succ → q2, getElem?_eq_some_iff → q7, all_nil → q9, length_map → ua, all_eq_true → uc, flatMap_nil → ud, getElem?_set_ne → ue, take_of_length_le → uh, getElem?_append_right → ui, take_length → ul, pairwise_cons → um, take_append_drop → un, filter_cons → uo, mem_append → uq, getElem?_set_self → ur, getElem?_eq_none → uu, set_cons_zero → uv, mem_map → uw, range → uz, mem_singleton → uA, mem_append_right → uE, length_take → uG, length_drop → uH, getElem?_cons_zero → uI, getElem?_cons_succ → uJ, set_cons_succ → uO
open _root_.Option renaming bind_some → qg, map_some → ux, getD_some → uN
open _root_.Nat renaming reduceEqDiff → qa, reduceLT → qc, reduceAdd → qd, reduceLeDiff → qf, zero_add → qm, reduceMul → qq, lt_succ_self → qr, le_refl → qu, reduceSub → qC, mul_le_mul_right → q1, reduceMod → ub, lt_of_lt_of_le → ug, zero_le → uk, le_trans → ut, zero_mul → uy, sub_self → uK, sub_zero → uM, succ_mul → uP, add_zero → uQ, add_assoc → uR, add_mul → uS
open _root_.Bool renaming and_eq_true → qn, not_false → qx, not_true → qH, or_true → qK, and_false → qL, and_true → qN, or_eq_true → qQ, or_false → qR, and_self → qU, false_eq_true → q3, true_and → uC, false_ne_true → uD, not_eq_true' → uF, false_or → uL
open _root_.Int renaming toNat → qI, toNat_natCast → qX
open _root_.BitVec renaming ofInt → qA, toNat → uj
open _root_.Array renaming length_toList → uf, getD_eq_getD_getElem? → uB, getElem?_eq_getElem → uT
open _root_.UInt8 renaming ofNat → q5
open Result renaming andThen_ok → qk
open Sem renaming run_bind → qo, run_pure → qO
open _root_.Go.Proofs.Tryz renaming prog → qh
section
set_option maxRecDepth 4000
set_option maxHeartbeats 1000000
open AM
theorem AM.idx_arr {T : TT} {t n e : Nat} {i j : TI} (hi : T t = some i) (hd : i.desc = .array n e) (hj : T e = some j) (hs : j.size = 1) (ha : j.agg = false) {l : List Int} (hn : n = l.length) {k : Int} {y : Int} (hx : wV l k = some y) (q : IntKind) : Xu T t (.agg (l.map (AV.int .i64))) (.int q k) = some (.int .i64 y) := by
 obtain ⟨h0, h1, h2, h3⟩ := wg hx;simp only [Xu, hi, hd, hj, hs, ha, Nat.mul_one];rw [if_pos ⟨h0, by omega⟩]
 simp [va4, gc, qv, h3, ua, h2]
def zJ.l25 (x2 : Int) (x3 : Int) (rec6 : Int → Int → Option Bool) (y12 : GMessage) : List GField → Int → Option Bool
 | [], x23 => (rec6 (IntKind.i64.wrap (x2 + (qb y12.fName : Int))) (IntKind.i64.wrap (x3 + 1)))
 | y25 :: q25, x23 => (if ((decide (200 < (qb y25.fName : Int))) || (decide (200 < (qb y25.fType.fName : Int)))) = true then some false else ((zJ.l25 x2 x3 rec6 y12 q25) (x23 + 1)))
def zJ.l60 (x41 : Int) (rec43 : Int → Option Bool) : List GNamed → Int → Option Bool
 | [], x58 => (rec43 (IntKind.i64.wrap (x41 + 1)))
 | y60 :: q60, x58 => (if 200 < (qb y60.fName : Int) then some false else ((zJ.l60 x41 rec43 q60) (x58 + 1)))
def zJ.l78 (a0 : GSchema) (x2 : Int) : Nat → Int → Option Bool
 | 0, _ => none
 | k78 + 1, x76 => (if ((decide (x76 < (qb a0.fMethods : Int))) && (decide (x76 < 20))) = true then (wV a0.fMethods x76).bind fun y84 => (if (((decide (200 < (qb y84.fName : Int))) || (decide (200 < (qb y84.fIn : Int)))) || (decide (200 < (qb y84.fOut : Int)))) = true then some false else ((zJ.l78 a0 x2 k78) (IntKind.i64.wrap (x76 + 1)))) else some ((((decide (x2 < 3000)) && (decide ((qb a0.fMessages : Int) ≤ 14))) && (decide ((qb a0.fEnums : Int) ≤ 10))) && (decide ((qb a0.fMethods : Int) ≤ 10))))
def zJ.l43 (a0 : GSchema) (x2 : Int) : Nat → Int → Option Bool
 | 0, _ => none
 | k43 + 1, x41 => (if ((decide (x41 < (qb a0.fEnums : Int))) && (decide (x41 < 20))) = true then (wV a0.fEnums x41).bind fun y50 => (if ((decide (200 < (qb y50.fName : Int))) || (decide (24 < (qb y50.fValues : Int)))) = true then some false else (zJ.l60 x41 (zJ.l43 a0 x2 k43) y50.fValues 0)) else (zJ.l78 a0 x2 rounds 0))
def zJ.l6 (a0 : GSchema) : Nat → Int → Int → Option Bool
 | 0, _, _ => none
 | k6 + 1, x2, x3 => (if ((decide (x3 < (qb a0.fMessages : Int))) && (decide (x3 < 20))) = true then (wV a0.fMessages x3).bind fun y12 => (if ((decide (20 < (qb y12.fFields : Int))) || (decide (40 < (qb y12.fReserved : Int)))) = true then some false else (zJ.l25 x2 x3 (zJ.l6 a0 k6) y12 y12.fFields 0)) else (zJ.l43 a0 x2 rounds 0))
def zJ (a0 : GSchema) : Option Bool :=
 (zJ.l6 a0 rounds (qb a0.fName : Int) 0)
theorem zJ.ok (a0 : GSchema) (r : Bool) (h : zJ a0 = some r) : ACalls qh 11 [.agg (encGSchema a0)] [] (fun r' _ => r' = .bool r) := by
 refine zf (rs := [.tmp 2]) tok Tryz.func11 rfl Tryz.ntmps11 rfl Tryz.call11 (by simp) ?_;refine zl [(0, .agg (encGSchema a0))] ⟨rfl, trivial⟩ ?_;unfold zJ at h
 refine rg tok [1] fun K hK => ?_
 simp only [go_sem, qc, qa, qd, reduceCtorEq, encGSchema];apply hK
 refine rgN [1, 3] ?_
 refine za fun Z1 hZ1 => ?_
 refine rgN [1, 3, 4] ?_;apply ze;refine zq (fun m L τ => ∃ (k6 : Nat) (x2 : Int) (x3 : Int), m = 0 + k6 ∧ L = [(1, .op 0 0 0), (3, .int .i64 x2), (4, .int .i64 x3)] ∧ τ = [.cells 0 (encGSchema a0)] ∧ zJ.l6 a0 k6 x2 x3 = some r) _ ⟨rounds, (qb a0.fName : Int), 0, rfl, rfl, rfl, h⟩ .s ?_;rintro m L τ ⟨k6, x2, x3, rfl, rfl, rfl, h⟩
 rcases k6 with _ | k6
 · cases h
 simp only [zJ.l6] at h
 refine za fun Z7 hZ7 => ?_
 refine rc [1, 3, 4, 21] fun K hK => ?_
 refine rnN 6 ?_;refine zh 3 (fun L τ => L = [(1, .op 0 0 0), (3, .int .i64 x2), (4, .int .i64 x3), (21, .bool ((decide (x3 < (qb a0.fMessages : Int))) && (decide (x3 < 20))))] ∧ τ = [.cells 0 (encGSchema a0)]) ?_ ?_
 · refine yA 18 rfl (fun hg18 => ?_) (fun hg18 => ?_)
   · have t8 := eq_true hg18;refine rnN 3 ?_;refine zb ⟨rfl, _, _, ⟨rfl, rfl⟩, .p t8⟩
   have t9 := eq_false hg18;refine rnN 3 ?_;refine zb ⟨rfl, _, _, ⟨rfl, rfl⟩, .p t9⟩
 rintro _ _ ⟨rfl, rfl⟩;refine nkN hK ?_;refine zn (b := ((decide (x3 < (qb a0.fMessages : Int))) && (decide (x3 < 20)))) rfl (fun hc10 => ?_) (fun hc10 => ?_)
 · rw [if_pos hc10] at h;apply zd;apply hZ7
   refine za fun Z11 hZ11 => ?_
   apply ze;obtain ⟨y12, hy12, h⟩ := bind_some h;have f13 := E22.idxS hy12;have f14 := E22.fldS0 (f := 9) rfl rfl hy12
   refine rg tok [1, 3, 4] fun K hK => ?_
   simp only [go_sem, qc, qa, qd, encGMessage, f13, f14];apply hK
   refine za fun Z15 hZ15 => ?_
   refine rc [1, 3, 4, 50] fun K hK => ?_
   have f16 := E22.idxS hy12;have f17 := E22.fldS (f := 47) rfl rfl hy12 (o := 1) (by decide);refine zj tok 9 ?_;simp only [go_sem, qc, qa, qd, encGMessage, f16, f17];refine zh 9 (fun L τ => L = [(1, .op 0 0 0), (3, .int .i64 (IntKind.i64.wrap (x2 + (qb y12.fName : Int)))), (4, .int .i64 x3), (50, .bool ((decide (20 < (qb y12.fFields : Int))) || (decide (40 < (qb y12.fReserved : Int)))))] ∧ τ = [.cells 0 (encGSchema a0)]) ?_ ?_
   · refine yA 41 rfl (fun hg41 => ?_) (fun hg41 => ?_)
     · have t18 := eq_true hg41;refine rnN 9 ?_;refine zb ⟨rfl, _, _, ⟨rfl, rfl⟩, .p t18⟩
     have t19 := eq_false hg41;have f20 := E22.idxS hy12;have f21 := E22.fldS (f := 45) rfl rfl hy12 (o := 2) (by decide);refine zj tok 9 ?_;simp only [go_sem, qc, qa, qd, encGMessage, f20, f21];refine zb ⟨rfl, _, _, ⟨rfl, rfl⟩, .p t19⟩
   rintro _ _ ⟨rfl, rfl⟩;refine nkN hK ?_;refine zn (b := ((decide (20 < (qb y12.fFields : Int))) || (decide (40 < (qb y12.fReserved : Int))))) rfl (fun hc22 => ?_) (fun hc22 => ?_)
   · rw [if_pos hc22] at h;refine rgN [2] ?_;cases h;exact rtA
   rw [xN hc22] at h;apply zd;apply hZ15;refine rgN [1, 3, 4, 5] ?_;apply ze
   refine xi 0 rfl fun hb25 => ?_
   replace hb25 := vag hb25.2.1.2 hy12;replace hb25 : qb y12.fFields ≤ 9223372036854775807 := hb25.2.1.1;refine zq (fun m L τ => ∃ (p25 q25 : List GField) (x23 : Int), m = qb q25 ∧ L = [(1, .op 0 0 0), (3, .int .i64 (IntKind.i64.wrap (x2 + (qb y12.fName : Int)))), (4, .int .i64 x3), (5, .int .i64 x23)] ∧ τ = [.cells 0 (encGSchema a0)] ∧ y12.fFields = p25 ++ q25 ∧ x23 = (qb p25 : Int) ∧ zJ.l25 x2 x3 (zJ.l6 a0 k6) y12 q25 x23 = some r) _ ⟨[], y12.fFields, 0, rfl, rfl, rfl, rfl, rfl, h⟩ .s ?_;rintro m L τ ⟨p25, q25, x23, rfl, rfl, rfl, hE25, hi25, h⟩
   rcases q25 with _ | ⟨y25, q25⟩
   · have hz25 := yl hE25 hi25;simp only [zJ.l25] at h
     refine za fun Z26 hZ26 => ?_
     have f27 := E22.idxS hy12;have f28 := E22.fldS (f := 47) rfl rfl hy12 (o := 1) (by decide)
     refine rg tok [1, 3, 4, 5, 59] fun K hK => ?_
     simp only [go_sem, qc, qa, qd, encGMessage, hz25, f27, f28];apply hK
     refine zm rfl ?_;apply zv;apply hZ11
     refine rgE tok [1, 3, 4] fun K hK => ?_
     simp only [go_sem, qc, qa];apply hK
     exact ⟨_, _, _, qr (0 + k6), ⟨k6, IntKind.i64.wrap (x2 + (qb y12.fName : Int)), IntKind.i64.wrap (x3 + 1), rfl, rfl, rfl, h⟩, .s⟩
   obtain ⟨hz25, hw25, hx25, hE'25, hi'25⟩ := zW hE25 hi25 hb25;simp only [zJ.l25] at h
   refine za fun Z29 hZ29 => ?_
   have f30 := E22.idxS hy12;have f31 := E22.fldS (f := 47) rfl rfl hy12 (o := 1) (by decide)
   refine rg tok [1, 3, 4, 5, 59] fun K hK => ?_
   simp only [go_sem, qc, qa, qd, encGMessage, hz25, f30, f31];apply hK
   refine zp rfl ?_;apply zd;apply hZ29
   refine za fun Z32 hZ32 => ?_
   apply ze;have f33 := E22.idxS hy12;have f34 := E22.fldS (f := 47) rfl rfl hy12 (o := 1) (by decide);have f35 := E47.idxS hx25;have f36 := E47.loadS rfl rfl hx25
   refine rg tok [1, 3, 4, 5, 6] fun K hK => ?_
   simp only [go_sem, qc, qf, qa, qd, encGField, encGMessage, f33, f34, f35, f36];apply hK
   refine rc [1, 3, 4, 5, 81] fun K hK => ?_
   refine rnN 5 ?_;refine zh 6 (fun L τ => L = [(1, .op 0 0 0), (3, .int .i64 (IntKind.i64.wrap (x2 + (qb y12.fName : Int)))), (4, .int .i64 x3), (5, .int .i64 x23), (81, .bool ((decide (200 < (qb y25.fName : Int))) || (decide (200 < (qb y25.fType.fName : Int)))))] ∧ τ = [.cells 0 (encGSchema a0), .cells 0 (encGField y25)]) ?_ ?_
   · refine yA 75 rfl (fun hg75 => ?_) (fun hg75 => ?_)
     · have t37 := eq_true hg75;refine rnN 6 ?_;refine zb ⟨rfl, _, _, ⟨rfl, rfl⟩, .p t37⟩
     have t38 := eq_false hg75;refine rnN 6 ?_;refine zb ⟨rfl, _, _, ⟨rfl, rfl⟩, .p t38⟩
   rintro _ _ ⟨rfl, rfl⟩;refine nkN hK ?_;refine zn (b := ((decide (200 < (qb y25.fName : Int))) || (decide (200 < (qb y25.fType.fName : Int))))) rfl (fun hc39 => ?_) (fun hc39 => ?_)
   · rw [if_pos hc39] at h;refine rgN [2] ?_;cases h;exact rtA
   rw [xN hc39] at h;apply zd;apply hZ32
   refine rgE tok [1, 3, 4, 5] fun K hK => ?_
   simp only [go_sem, qc, qa, hw25];apply hK
   exact ⟨_, _, _, qr q25.length, ⟨p25 ++ [y25], q25, x23 + 1, rfl, rfl, rfl, hE'25, hi'25, h⟩, (.t [0] false)⟩
 rw [xN hc10] at h;apply zv;apply hZ1
 refine za fun Z40 hZ40 => ?_
 refine rgN [1, 3, 7] ?_;apply ze;refine zq (fun m L τ => ∃ (k43 : Nat) (x41 : Int), m = 0 + k43 ∧ L = [(1, .op 0 0 0), (3, .int .i64 x2), (7, .int .i64 x41)] ∧ τ = [.cells 0 (encGSchema a0)] ∧ zJ.l43 a0 x2 k43 x41 = some r) _ ⟨rounds, 0, rfl, rfl, rfl, h⟩ .s ?_;rintro m L τ ⟨k43, x41, rfl, rfl, rfl, h⟩
 rcases k43 with _ | k43
 · cases h
 simp only [zJ.l43] at h
 refine za fun Z44 hZ44 => ?_
 refine rc [1, 3, 7, 90] fun K hK => ?_
 refine rnN 6 ?_;refine zh 3 (fun L τ => L = [(1, .op 0 0 0), (3, .int .i64 x2), (7, .int .i64 x41), (90, .bool ((decide (x41 < (qb a0.fEnums : Int))) && (decide (x41 < 20))))] ∧ τ = [.cells 0 (encGSchema a0)]) ?_ ?_
 · refine yA 87 rfl (fun hg87 => ?_) (fun hg87 => ?_)
   · have t45 := eq_true hg87;refine rnN 3 ?_;refine zb ⟨rfl, _, _, ⟨rfl, rfl⟩, .p t45⟩
   have t46 := eq_false hg87;refine rnN 3 ?_;refine zb ⟨rfl, _, _, ⟨rfl, rfl⟩, .p t46⟩
 rintro _ _ ⟨rfl, rfl⟩;refine nkN hK ?_;refine zn (b := ((decide (x41 < (qb a0.fEnums : Int))) && (decide (x41 < 20)))) rfl (fun hc47 => ?_) (fun hc47 => ?_)
 · rw [if_pos hc47] at h;apply zd;apply hZ44
   refine za fun Z48 hZ48 => ?_
   apply ze
   refine za fun Z49 hZ49 => ?_
   refine rc [1, 3, 7, 110] fun K hK => ?_
   obtain ⟨y50, hy50, h⟩ := bind_some h;have f51 := E23.idxS hy50;have f52 := E23.fldS0 (f := 9) rfl rfl hy50;refine zj tok 9 ?_;simp only [go_sem, qc, qa, qd, encGEnumeration, f51, f52];refine zh 9 (fun L τ => L = [(1, .op 0 0 0), (3, .int .i64 x2), (7, .int .i64 x41), (110, .bool ((decide (200 < (qb y50.fName : Int))) || (decide (24 < (qb y50.fValues : Int)))))] ∧ τ = [.cells 0 (encGSchema a0)]) ?_ ?_
   · refine yA 101 rfl (fun hg101 => ?_) (fun hg101 => ?_)
     · have t53 := eq_true hg101;refine rnN 9 ?_;refine zb ⟨rfl, _, _, ⟨rfl, rfl⟩, .p t53⟩
     have t54 := eq_false hg101;have f55 := E23.idxS hy50;have f56 := E23.fldS (f := 82) rfl rfl hy50 (o := 1) (by decide);refine zj tok 9 ?_;simp only [go_sem, qc, qa, qd, encGEnumeration, f55, f56];refine zb ⟨rfl, _, _, ⟨rfl, rfl⟩, .p t54⟩
   rintro _ _ ⟨rfl, rfl⟩;refine nkN hK ?_;refine zn (b := ((decide (200 < (qb y50.fName : Int))) || (decide (24 < (qb y50.fValues : Int))))) rfl (fun hc57 => ?_) (fun hc57 => ?_)
   · rw [if_pos hc57] at h;refine rgN [2] ?_;cases h;exact rtA
   rw [xN hc57] at h;apply zd;apply hZ49;refine rgN [1, 3, 7, 8] ?_;apply ze
   refine xi 0 rfl fun hb60 => ?_
   replace hb60 := vag hb60.2.2.1.2 hy50;replace hb60 : qb y50.fValues ≤ 9223372036854775807 := hb60.2.1.1;refine zq (fun m L τ => ∃ (p60 q60 : List GNamed) (x58 : Int), m = qb q60 ∧ L = [(1, .op 0 0 0), (3, .int .i64 x2), (7, .int .i64 x41), (8, .int .i64 x58)] ∧ τ = [.cells 0 (encGSchema a0)] ∧ y50.fValues = p60 ++ q60 ∧ x58 = (qb p60 : Int) ∧ zJ.l60 x41 (zJ.l43 a0 x2 k43) q60 x58 = some r) _ ⟨[], y50.fValues, 0, rfl, rfl, rfl, rfl, rfl, h⟩ .s ?_;rintro m L τ ⟨p60, q60, x58, rfl, rfl, rfl, hE60, hi60, h⟩
   rcases q60 with _ | ⟨y60, q60⟩
   · have hz60 := yl hE60 hi60;simp only [zJ.l60] at h
     refine za fun Z61 hZ61 => ?_
     have f62 := E23.idxS hy50;have f63 := E23.fldS (f := 82) rfl rfl hy50 (o := 1) (by decide)
     refine rg tok [1, 3, 7, 8, 119] fun K hK => ?_
     simp only [go_sem, qc, qa, qd, encGEnumeration, hz60, f62, f63];apply hK
     refine zm rfl ?_;apply zv;apply hZ48
     refine rgE tok [1, 3, 7] fun K hK => ?_
     simp only [go_sem, qc, qa];apply hK
     exact ⟨_, _, _, qr (0 + k43), ⟨k43, IntKind.i64.wrap (x41 + 1), rfl, rfl, rfl, h⟩, .s⟩
   obtain ⟨hz60, hw60, hx60, hE'60, hi'60⟩ := zW hE60 hi60 hb60;simp only [zJ.l60] at h
   refine za fun Z64 hZ64 => ?_
   have f65 := E23.idxS hy50;have f66 := E23.fldS (f := 82) rfl rfl hy50 (o := 1) (by decide)
   refine rg tok [1, 3, 7, 8, 119] fun K hK => ?_
   simp only [go_sem, qc, qa, qd, encGEnumeration, hz60, f65, f66];apply hK
   refine zp rfl ?_;apply zd;apply hZ64
   refine za fun Z67 hZ67 => ?_
   apply ze;have f68 := E23.idxS hy50;have f69 := E23.fldS (f := 82) rfl rfl hy50 (o := 1) (by decide);have f70 := E82.idxS hx60;have f71 := E82.fldS0 (f := 9) rfl rfl hx60
   refine rg tok [1, 3, 7, 8, 133] fun K hK => ?_
   simp only [go_sem, qc, qa, qd, encGEnumeration, encGNamed, f68, f69, f70, f71];apply hK
   refine zx rfl (fun hc72 => ?_) (fun hc72 => ?_)
   · rw [if_pos hc72] at h;have t73 := eq_true hc72
     refine rg tok [2] fun K hK => ?_
     simp only [go_sem, qc, qa, t73];apply hK
     cases h;exact rtA
   rw [if_neg hc72] at h;have t74 := eq_false hc72;apply zd;apply hZ67
   refine rgE tok [1, 3, 7, 8] fun K hK => ?_
   simp only [go_sem, qc, qa, hw60, t74];apply hK
   exact ⟨_, _, _, qr q60.length, ⟨p60 ++ [y60], q60, x58 + 1, rfl, rfl, rfl, hE'60, hi'60, h⟩, .s⟩
 rw [xN hc47] at h;apply zv;apply hZ40
 refine za fun Z75 hZ75 => ?_
 refine rgN [1, 3, 9] ?_;apply ze;refine zq (fun m L τ => ∃ (k78 : Nat) (x76 : Int), m = 0 + k78 ∧ L = [(1, .op 0 0 0), (3, .int .i64 x2), (9, .int .i64 x76)] ∧ τ = [.cells 0 (encGSchema a0)] ∧ zJ.l78 a0 x2 k78 x76 = some r) _ ⟨rounds, 0, rfl, rfl, rfl, h⟩ .s ?_;rintro m L τ ⟨k78, x76, rfl, rfl, rfl, h⟩
 rcases k78 with _ | k78
 · cases h
 simp only [zJ.l78] at h
 refine za fun Z79 hZ79 => ?_
 refine rc [1, 3, 9, 142] fun K hK => ?_
 refine rnN 6 ?_;refine zh 3 (fun L τ => L = [(1, .op 0 0 0), (3, .int .i64 x2), (9, .int .i64 x76), (142, .bool ((decide (x76 < (qb a0.fMethods : Int))) && (decide (x76 < 20))))] ∧ τ = [.cells 0 (encGSchema a0)]) ?_ ?_
 · refine yA 139 rfl (fun hg139 => ?_) (fun hg139 => ?_)
   · have t80 := eq_true hg139;refine rnN 3 ?_;refine zb ⟨rfl, _, _, ⟨rfl, rfl⟩, .p t80⟩
   have t81 := eq_false hg139;refine rnN 3 ?_;refine zb ⟨rfl, _, _, ⟨rfl, rfl⟩, .p t81⟩
 rintro _ _ ⟨rfl, rfl⟩;refine nkN hK ?_;refine zn (b := ((decide (x76 < (qb a0.fMethods : Int))) && (decide (x76 < 20)))) rfl (fun hc82 => ?_) (fun hc82 => ?_)
 · rw [if_pos hc82] at h;apply zd;apply hZ79
   refine za fun Z83 hZ83 => ?_
   apply ze
   refine rc [1, 3, 9, 172] fun K hK => ?_
   obtain ⟨y84, hy84, h⟩ := bind_some h;have f85 := E24.idxS hy84;have f86 := E24.fldS0 (f := 9) rfl rfl hy84;refine zj tok 9 ?_;simp only [go_sem, qc, qa, qd, encGMethod, f85, f86];refine zh 9 (fun L τ => L = [(1, .op 0 0 0), (3, .int .i64 x2), (9, .int .i64 x76), (162, .bool ((decide (200 < (qb y84.fName : Int))) || (decide (200 < (qb y84.fIn : Int)))))] ∧ τ = [.cells 0 (encGSchema a0)]) ?_ ?_
   · refine yA 153 rfl (fun hg153 => ?_) (fun hg153 => ?_)
     · have t87 := eq_true hg153;refine rnN 9 ?_;refine zb ⟨rfl, _, _, ⟨rfl, rfl⟩, .p t87⟩
     have t88 := eq_false hg153;have f89 := E24.idxS hy84;have f90 := E24.fldS (f := 9) rfl rfl hy84 (o := 1) (by decide);refine zj tok 9 ?_;simp only [go_sem, qc, qa, qd, encGMethod, f89, f90];refine zb ⟨rfl, _, _, ⟨rfl, rfl⟩, .p t88⟩
   rintro _ _ ⟨rfl, rfl⟩;refine rnN 1 ?_;refine zh 9 (fun L τ => L = [(1, .op 0 0 0), (3, .int .i64 x2), (9, .int .i64 x76), (172, .bool (((decide (200 < (qb y84.fName : Int))) || (decide (200 < (qb y84.fIn : Int)))) || (decide (200 < (qb y84.fOut : Int)))))] ∧ τ = [.cells 0 (encGSchema a0)]) ?_ ?_
   · refine zI (b := ((decide (200 < (qb y84.fName : Int))) || (decide (200 < (qb y84.fIn : Int))))) 163 rfl (fun hg163 => ?_) (fun hg163 => ?_)
     · refine rnN 9 ?_;refine zb ⟨rfl, _, _, ⟨rfl, rfl⟩, .b hg163⟩
     have f91 := E24.idxS hy84;have f92 := E24.fldS (f := 9) rfl rfl hy84 (o := 2) (by decide);refine zj tok 9 ?_;simp only [go_sem, qc, qa, qd, encGMethod, f91, f92];refine zb ⟨rfl, _, _, ⟨rfl, rfl⟩, .b hg163⟩
   rintro _ _ ⟨rfl, rfl⟩;refine nkN hK ?_;refine zn (b := (((decide (200 < (qb y84.fName : Int))) || (decide (200 < (qb y84.fIn : Int)))) || (decide (200 < (qb y84.fOut : Int))))) rfl (fun hc93 => ?_) (fun hc93 => ?_)
   · rw [if_pos hc93] at h;refine rgN [2] ?_;cases h;exact rtA
   rw [xN hc93] at h;apply zd;apply hZ83
   refine rgE tok [1, 3, 9] fun K hK => ?_
   simp only [go_sem, qc, qa];apply hK
   exact ⟨_, _, _, qr (0 + k78), ⟨k78, IntKind.i64.wrap (x76 + 1), rfl, rfl, rfl, h⟩, .s⟩
 rw [xN hc82] at h;apply zv;apply hZ75
 refine rc [2] fun K hK => ?_
 refine rnN 3 ?_;refine zh 5 (fun L τ => L = [(1, .op 0 0 0), (180, .bool ((decide (x2 < 3000)) && (decide ((qb a0.fMessages : Int) ≤ 14))))] ∧ τ = [.cells 0 (encGSchema a0)]) ?_ ?_
 · refine yA 175 rfl (fun hg175 => ?_) (fun hg175 => ?_)
   · have t94 := eq_true hg175;refine rnN 5 ?_;refine zb ⟨rfl, _, _, ⟨rfl, rfl⟩, .p t94⟩
   have t95 := eq_false hg175;refine rnN 5 ?_;refine zb ⟨rfl, _, _, ⟨rfl, rfl⟩, .p t95⟩
 rintro _ _ ⟨rfl, rfl⟩;refine rnN 1 ?_;refine zh 5 (fun L τ => L = [(1, .op 0 0 0), (186, .bool (((decide (x2 < 3000)) && (decide ((qb a0.fMessages : Int) ≤ 14))) && (decide ((qb a0.fEnums : Int) ≤ 10))))] ∧ τ = [.cells 0 (encGSchema a0)]) ?_ ?_
 · refine zI (b := ((decide (x2 < 3000)) && (decide ((qb a0.fMessages : Int) ≤ 14)))) 181 rfl (fun hg181 => ?_) (fun hg181 => ?_)
   · refine rnN 5 ?_;refine zb ⟨rfl, _, _, ⟨rfl, rfl⟩, .b hg181⟩
   refine rnN 5 ?_;refine zb ⟨rfl, _, _, ⟨rfl, rfl⟩, .b hg181⟩
 rintro _ _ ⟨rfl, rfl⟩;refine rnN 1 ?_;refine zh 5 (fun L τ => L = [(192, .bool ((((decide (x2 < 3000)) && (decide ((qb a0.fMessages : Int) ≤ 14))) && (decide ((qb a0.fEnums : Int) ≤ 10))) && (decide ((qb a0.fMethods : Int) ≤ 10))))] ∧ τ = [.cells 0 (encGSchema a0)]) ?_ ?_
 · refine zI (b := (((decide (x2 < 3000)) && (decide ((qb a0.fMessages : Int) ≤ 14))) && (decide ((qb a0.fEnums : Int) ≤ 10)))) 187 rfl (fun hg187 => ?_) (fun hg187 => ?_)
   · refine rnN 5 ?_;refine zb ⟨rfl, _, _, ⟨rfl, rfl⟩, .b hg187⟩
   refine rnN 5 ?_;refine zb ⟨rfl, _, _, ⟨rfl, rfl⟩, .b hg187⟩
 rintro _ _ ⟨rfl, rfl⟩;refine rnN 1 ?_;refine nkN hK ?_;cases h;exact rtA
theorem zJ.ev (a0 : GSchema) (r : Bool) (h : zJ a0 = some r) (σ : Store) : ACalls qh 11 [.agg (encGSchema a0)] σ (fun r' σ' => r' = .bool r ∧ σ' = σ) :=
 (zJ.ok a0 r h).c σ
def yJ.l9 (a0 : List UInt8) : Nat → Nat → Int → Option Int
 | 0, _, _ => none
 | k9 + 1, p5, x6 => (if p5 < qb a0 then ((yJ.l9 a0 k9) (p5 + (Yx a0 p5).2) (IntKind.i64.wrap (x6 + 1))) else some x6)
def yJ (a0 : List UInt8) : Option Int :=
 (yE a0).bind fun r2 => (if (!r2) = true then some 0 else (yJ.l9 a0 rounds 0 0))
theorem yJ.ok (a0 : List UInt8) (r : Int) (h : yJ a0 = some r) : ACalls qh 102 [.str a0] [] (fun r' _ => r' = .int .i64 r) := by
 refine zf (rs := [.tmp 2]) tok Tryz.func102 rfl Tryz.ntmps102 rfl Tryz.call102 (by simp) ?_;refine zl [(0, .str a0)] ⟨rfl, trivial⟩ ?_;unfold yJ at h;refine rgN [0] ?_
 refine za fun Z1 hZ1 => ?_
 refine rc [0, 6] fun K hK => ?_
 obtain ⟨r2, hr2, h⟩ := bind_some h;refine rnN 1 ?_;refine clN rfl rfl rfl (yE.ev a0 r2 hr2 _) ?_;refine rnN 1 ?_;refine nkN hK ?_;refine zn (b := (!r2)) rfl (fun hc3 => ?_) (fun hc3 => ?_)
 · rw [if_pos hc3] at h;refine rgN [2] ?_;cases h;exact rtA
 rw [xN hc3] at h;apply zd;apply hZ1;refine rgN [0, 3] ?_
 refine za fun Z4 hZ4 => ?_
 refine rgN [3, 8] ?_;apply ze;refine zq (fun m L τ => ∃ (k9 : Nat) (p5 : Nat) (x6 : Int), m = 0 + k9 ∧ L = [(3, .int .i64 x6), (8, .it 0)] ∧ τ = [.iter a0 p5] ∧ yJ.l9 a0 k9 p5 x6 = some r) _ ⟨rounds, 0, 0, rfl, rfl, rfl, h⟩ .s ?_;rintro m L τ ⟨k9, p5, x6, rfl, rfl, rfl, h⟩
 rcases k9 with _ | k9
 · cases h
 simp only [yJ.l9] at h
 by_cases hn10 : p5 < qb a0
 · rw [if_pos hn10] at h;have t11 := eq_true hn10
   refine rg tok [3, 8, 10] fun K hK => ?_
   simp only [go_sem, qc, qa, qd, X9, if_true, if_false, t11];apply hK
   refine za fun Z12 hZ12 => ?_
   refine zp rfl ?_;apply zd;apply hZ12;apply ze
   refine rgE tok [3, 8] fun K hK => ?_
   simp only [go_sem, qc, qa];apply hK
   exact ⟨_, _, _, qr (0 + k9), ⟨k9, p5 + (Yx a0 p5).2, IntKind.i64.wrap (x6 + 1), rfl, rfl, rfl, h⟩, .s⟩
 rw [if_neg hn10] at h;have t13 := eq_false hn10
 refine rg tok [3, 8, 10] fun K hK => ?_
 simp only [go_sem, qc, qa, X9, if_true, if_false, t13];apply hK
 refine za fun Z14 hZ14 => ?_
 refine zm rfl ?_;apply zv;apply hZ4;refine rgN [2] ?_;cases h;exact rtA
theorem yJ.ev (a0 : List UInt8) (r : Int) (h : yJ a0 = some r) (σ : Store) : ACalls qh 102 [.str a0] σ (fun r' σ' => r' = .int .i64 r ∧ σ' = σ) :=
 (yJ.ok a0 r h).c σ
def xg.j3 (x2 : Bool) : Bool :=
 (if x2 = true then true else false)
def xg (a0 : List UInt8) : Bool :=
 (if a0 = [115, 99, 104, 101, 109, 97] then (xg.j3 (decide (a0 = [115, 99, 104, 101, 109, 97]))) else (if a0 = [109, 101, 115, 115, 97, 103, 101] then (xg.j3 (decide (a0 = [109, 101, 115, 115, 97, 103, 101]))) else (if a0 = [101, 110, 117, 109] then (xg.j3 (decide (a0 = [101, 110, 117, 109]))) else (if a0 = [99, 97, 108, 108] then (xg.j3 (decide (a0 = [99, 97, 108, 108]))) else (if a0 = [114, 101, 116, 117, 114, 110, 115] then (xg.j3 (decide (a0 = [114, 101, 116, 117, 114, 110, 115]))) else (if a0 = [114, 101, 115, 101, 114, 118, 101, 100] then (xg.j3 (decide (a0 = [114, 101, 115, 101, 114, 118, 101, 100]))) else (if a0 = [111, 112, 116, 105, 111, 110, 97, 108] then (xg.j3 (decide (a0 = [111, 112, 116, 105, 111, 110, 97, 108]))) else (if a0 = [114, 101, 112, 101, 97, 116, 101, 100] then (xg.j3 (decide (a0 = [114, 101, 112, 101, 97, 116, 101, 100]))) else (if a0 = [105, 110, 116, 51, 50] then (xg.j3 (decide (a0 = [105, 110, 116, 51, 50]))) else (if a0 = [105, 110, 116, 54, 52] then (xg.j3 (decide (a0 = [105, 110, 116, 54, 52]))) else (if a0 = [98, 111, 111, 108] then (xg.j3 (decide (a0 = [98, 111, 111, 108]))) else (if a0 = [116, 101, 120, 116] then (xg.j3 (decide (a0 = [116, 101, 120, 116]))) else (xg.j3 (decide (a0 = [98, 121, 116, 101, 115])))))))))))))))
theorem xg.ok (a0 : List UInt8) (r : Bool) (h : xg a0 = r) : ACalls qh 103 [.str a0] [] (fun r' _ => r' = .bool r) := by
 refine zf (rs := [.tmp 2]) tok Tryz.func103 rfl Tryz.ntmps103 rfl Tryz.call103 (by simp) ?_;refine zl [(0, .str a0)] ⟨rfl, trivial⟩ ?_;unfold xg at h;refine rgN [0] ?_
 refine za fun Z1 hZ1 => ?_
 refine rgN [3] ?_;apply ze;refine xy (fun L τ => ∃ (x2 : Bool), L = [(4, .bool x2)] ∧ τ = [] ∧ xg.j3 x2 = r) ?_ ?_
 · refine rgN [3, 4] ?_;refine zx rfl (fun hc5 => ?_) (fun hc5 => ?_)
   · rw [if_pos hc5] at h;have t6 := eq_true hc5;apply zd;exact ⟨_, _, ⟨decide (a0 = [115, 99, 104, 101, 109, 97]), rfl, rfl, h⟩, .s⟩
   rw [if_neg hc5] at h;have t7 := eq_false hc5
   refine rg tok [3, 4] fun K hK => ?_
   simp only [go_sem, qc, qa, t7];apply hK
   refine zx rfl (fun hc8 => ?_) (fun hc8 => ?_)
   · rw [if_pos hc8] at h;have t9 := eq_true hc8;apply zd;exact ⟨_, _, ⟨decide (a0 = [109, 101, 115, 115, 97, 103, 101]), rfl, rfl, h⟩, .s⟩
   rw [if_neg hc8] at h;have t10 := eq_false hc8
   refine rg tok [3, 4] fun K hK => ?_
   simp only [go_sem, qc, qa, t10];apply hK
   refine zx rfl (fun hc11 => ?_) (fun hc11 => ?_)
   · rw [if_pos hc11] at h;have t12 := eq_true hc11;apply zd;exact ⟨_, _, ⟨decide (a0 = [101, 110, 117, 109]), rfl, rfl, h⟩, .s⟩
   rw [if_neg hc11] at h;have t13 := eq_false hc11
   refine rg tok [3, 4] fun K hK => ?_
   simp only [go_sem, qc, qa, t13];apply hK
   refine zx rfl (fun hc14 => ?_) (fun hc14 => ?_)
   · rw [if_pos hc14] at h;have t15 := eq_true hc14;apply zd;exact ⟨_, _, ⟨decide (a0 = [99, 97, 108, 108]), rfl, rfl, h⟩, .s⟩
   rw [if_neg hc14] at h;have t16 := eq_false hc14
   refine rg tok [3, 4] fun K hK => ?_
   simp only [go_sem, qc, qa, t16];apply hK
   refine zx rfl (fun hc17 => ?_) (fun hc17 => ?_)
   · rw [if_pos hc17] at h;have t18 := eq_true hc17;apply zd;exact ⟨_, _, ⟨decide (a0 = [114, 101, 116, 117, 114, 110, 115]), rfl, rfl, h⟩, .s⟩
   rw [if_neg hc17] at h;have t19 := eq_false hc17
   refine rg tok [3, 4] fun K hK => ?_
   simp only [go_sem, qc, qa, t19];apply hK
   refine zx rfl (fun hc20 => ?_) (fun hc20 => ?_)
   · rw [if_pos hc20] at h;have t21 := eq_true hc20;apply zd;exact ⟨_, _, ⟨decide (a0 = [114, 101, 115, 101, 114, 118, 101, 100]), rfl, rfl, h⟩, .s⟩
   rw [if_neg hc20] at h;have t22 := eq_false hc20
   refine rg tok [3, 4] fun K hK => ?_
   simp only [go_sem, qc, qa, t22];apply hK
   refine zx rfl (fun hc23 => ?_) (fun hc23 => ?_)
   · rw [if_pos hc23] at h;have t24 := eq_true hc23;apply zd;exact ⟨_, _, ⟨decide (a0 = [111, 112, 116, 105, 111, 110, 97, 108]), rfl, rfl, h⟩, .s⟩
   rw [if_neg hc23] at h;have t25 := eq_false hc23
   refine rg tok [3, 4] fun K hK => ?_
   simp only [go_sem, qc, qa, t25];apply hK
   refine zx rfl (fun hc26 => ?_) (fun hc26 => ?_)
   · rw [if_pos hc26] at h;have t27 := eq_true hc26;apply zd;exact ⟨_, _, ⟨decide (a0 = [114, 101, 112, 101, 97, 116, 101, 100]), rfl, rfl, h⟩, .s⟩
   rw [if_neg hc26] at h;have t28 := eq_false hc26
   refine rg tok [3, 4] fun K hK => ?_
   simp only [go_sem, qc, qa, t28];apply hK
   refine zx rfl (fun hc29 => ?_) (fun hc29 => ?_)
   · rw [if_pos hc29] at h;have t30 := eq_true hc29;apply zd;exact ⟨_, _, ⟨decide (a0 = [105, 110, 116, 51, 50]), rfl, rfl, h⟩, .s⟩
   rw [if_neg hc29] at h;have t31 := eq_false hc29
   refine rg tok [3, 4] fun K hK => ?_
   simp only [go_sem, qc, qa, t31];apply hK
   refine zx rfl (fun hc32 => ?_) (fun hc32 => ?_)
   · rw [if_pos hc32] at h;have t33 := eq_true hc32;apply zd;exact ⟨_, _, ⟨decide (a0 = [105, 110, 116, 54, 52]), rfl, rfl, h⟩, .s⟩
   rw [if_neg hc32] at h;have t34 := eq_false hc32
   refine rg tok [3, 4] fun K hK => ?_
   simp only [go_sem, qc, qa, t34];apply hK
   refine zx rfl (fun hc35 => ?_) (fun hc35 => ?_)
   · rw [if_pos hc35] at h;have t36 := eq_true hc35;apply zd;exact ⟨_, _, ⟨decide (a0 = [98, 111, 111, 108]), rfl, rfl, h⟩, .s⟩
   rw [if_neg hc35] at h;have t37 := eq_false hc35
   refine rg tok [3, 4] fun K hK => ?_
   simp only [go_sem, qc, qa, t37];apply hK
   refine zx rfl (fun hc38 => ?_) (fun hc38 => ?_)
   · rw [if_pos hc38] at h;have t39 := eq_true hc38;apply zd;exact ⟨_, _, ⟨decide (a0 = [116, 101, 120, 116]), rfl, rfl, h⟩, .s⟩
   rw [if_neg hc38] at h;have t40 := eq_false hc38
   refine rgE tok [4] fun K hK => ?_
   simp only [go_sem, qc, qa, t40];apply hK
   exact ⟨_, _, ⟨decide (a0 = [98, 121, 116, 101, 115]), rfl, rfl, h⟩, .s⟩
 rintro _ _ ⟨x2, rfl, rfl, h⟩;unfold xg.j3 at h;refine zn (b := x2) rfl (fun hc4 => ?_) (fun hc4 => ?_)
 · rw [if_pos hc4] at h;refine rgN [2] ?_;cases h;exact rtA
 rw [xN hc4] at h;apply zd;apply hZ1;refine rgN [2] ?_;cases h;exact rtA
theorem xg.ev (a0 : List UInt8) (r : Bool) (h : xg a0 = r) (σ : Store) : ACalls qh 103 [.str a0] σ (fun r' σ' => r' = .bool r ∧ σ' = σ) :=
 (xg.ok a0 r h).c σ
def wq (a0 : Int) (a1 : Int) (a2 : Int) : Bool :=
 ((decide (a1 ≤ a0)) && (decide (a0 ≤ a2)))
theorem wq.ok (a0 : Int) (a1 : Int) (a2 : Int) (r : Bool) (h : wq a0 a1 a2 = r) : ACalls qh 139 [.int .i32 a0, .int .i32 a1, .int .i32 a2] [] (fun r' _ => r' = .bool r) := by
 refine zf (rs := [.tmp 6]) tok Tryz.func139 rfl Tryz.ntmps139 rfl Tryz.call139 (by simp) ?_;refine zl [(0, .int .i32 a0), (1, .int .i32 a1), (2, .int .i32 a2)] ⟨rfl, rfl, rfl, trivial⟩ ?_;unfold wq at h;refine rgN [0, 1, 2] ?_
 refine rc [6] fun K hK => ?_
 refine rnN 4 ?_;refine zh 4 (fun L τ => L = [(14, .bool ((decide (a1 ≤ a0)) && (decide (a0 ≤ a2))))] ∧ τ = []) ?_ ?_
 · refine yA 10 rfl (fun hg10 => ?_) (fun hg10 => ?_)
   · have t1 := eq_true hg10;refine rnN 4 ?_;refine zb ⟨rfl, _, _, ⟨rfl, rfl⟩, .p t1⟩
   have t2 := eq_false hg10;refine rnN 4 ?_;refine zb ⟨rfl, _, _, ⟨rfl, rfl⟩, .p t2⟩
 rintro _ _ ⟨rfl, rfl⟩;refine rnN 1 ?_;refine nkN hK ?_;cases h;exact rtA
theorem wq.ev (a0 : Int) (a1 : Int) (a2 : Int) (r : Bool) (h : wq a0 a1 a2 = r) (σ : Store) : ACalls qh 139 [.int .i32 a0, .int .i32 a1, .int .i32 a2] σ (fun r' σ' => r' = .bool r ∧ σ' = σ) :=
 (wq.ok a0 a1 a2 r h).c σ
def xd.j6 (a0 : Int) (x5 : Bool) : Bool :=
 (if x5 = true then false else bnd (wq a0 97 122) fun r8 => bnd (if r8 = true then true else bnd (wq a0 65 90) fun r9 => r9) fun c9 => bnd (if c9 = true then true else bnd (wq a0 192 591) fun r11 => r11) fun c11 => bnd (if c11 = true then true else bnd (wq a0 913 969) fun r13 => r13) fun c13 => c13)
def xd (a0 : Int) : Bool :=
 (if a0 = 95 then true else (if a0 = 215 then (xd.j6 a0 (decide (a0 = 215))) else (if a0 = 247 then (xd.j6 a0 (decide (a0 = 247))) else (xd.j6 a0 (decide (a0 = 930))))))
theorem xd.ok (a0 : Int) (r : Bool) (h : xd a0 = r) : ACalls qh 104 [.int .i32 a0] [] (fun r' _ => r' = .bool r) := by
 refine zf (rs := [.tmp 2]) tok Tryz.func104 rfl Tryz.ntmps104 rfl Tryz.call104 (by simp) ?_;refine zl [(0, .int .i32 a0)] ⟨rfl, trivial⟩ ?_;unfold xd at h;refine rgN [0] ?_
 refine za fun Z1 hZ1 => ?_
 refine rgN [0, 3] ?_;apply ze;refine rgN [0, 3, 4] ?_;refine zx rfl (fun hc2 => ?_) (fun hc2 => ?_)
 · rw [if_pos hc2] at h;have t3 := eq_true hc2
   refine rg tok [2] fun K hK => ?_
   simp only [go_sem, qc, qa, reduceCtorEq, t3];apply hK
   cases h;exact rtA
 rw [if_neg hc2] at h;have t4 := eq_false hc2;refine xy (fun L τ => ∃ (x5 : Bool), L = [(0, .int .i32 a0), (6, .bool x5)] ∧ τ = [] ∧ xd.j6 a0 x5 = r) ?_ ?_
 · refine rg tok [0, 3, 6] fun K hK => ?_
   simp only [go_sem, qc, qa, reduceCtorEq, t4];apply hK
   refine zx rfl (fun hc15 => ?_) (fun hc15 => ?_)
   · rw [if_pos hc15] at h;have t16 := eq_true hc15;apply zd;exact ⟨_, _, ⟨decide (a0 = 215), rfl, rfl, h⟩, .s⟩
   rw [if_neg hc15] at h;have t17 := eq_false hc15
   refine rg tok [0, 3, 6] fun K hK => ?_
   simp only [go_sem, qc, qa, reduceCtorEq, t17];apply hK
   refine zx rfl (fun hc18 => ?_) (fun hc18 => ?_)
   · rw [if_pos hc18] at h;have t19 := eq_true hc18;apply zd;exact ⟨_, _, ⟨decide (a0 = 247), rfl, rfl, h⟩, .s⟩
   rw [if_neg hc18] at h;have t20 := eq_false hc18
   refine rgE tok [0, 6] fun K hK => ?_
   simp only [go_sem, qc, qa, reduceCtorEq, t20];apply hK
   exact ⟨_, _, ⟨decide (a0 = 930), rfl, rfl, h⟩, .s⟩
 rintro _ _ ⟨x5, rfl, rfl, h⟩;unfold xd.j6 at h;refine zn (b := x5) rfl (fun hc7 => ?_) (fun hc7 => ?_)
 · rw [if_pos hc7] at h;refine rgN [2] ?_;cases h;exact rtA
 rw [xN hc7] at h;apply zd;apply hZ1
 refine rc [2] fun K hK => ?_
 obtain ⟨r8, hr8, h⟩ := zS h;refine rnN 1 ?_;refine clN rfl rfl rfl (wq.ev a0 97 122 r8 hr8 _) ?_;refine rnN 1 ?_;obtain ⟨c9, hc9, h⟩ := zS h;refine zh 3 (fun L τ => L = [(0, .int .i32 a0), (15, .bool c9)] ∧ τ = []) ?_ ?_
 · refine zI (b := r8) 12 rfl (fun hg12 => ?_) (fun hg12 => ?_)
   · rw [if_pos hg12] at hc9;refine rnN 3 ?_;subst hc9;refine zb ⟨rfl, _, _, ⟨rfl, rfl⟩, .b hg12⟩
   rw [xN hg12] at hc9;obtain ⟨r10, hr10, hc9⟩ := zS hc9;refine rnN 1 ?_;refine clN rfl rfl rfl (wq.ev a0 65 90 r10 hr10 _) ?_;refine rnN 1 ?_;subst hc9;refine zb ⟨rfl, _, _, ⟨rfl, rfl⟩, .b hg12⟩
 rintro _ _ ⟨rfl, rfl⟩;refine rnN 1 ?_;obtain ⟨c11, hc11, h⟩ := zS h;refine zh 3 (fun L τ => L = [(0, .int .i32 a0), (19, .bool c11)] ∧ τ = []) ?_ ?_
 · refine zI (b := c9) 16 rfl (fun hg16 => ?_) (fun hg16 => ?_)
   · rw [if_pos hg16] at hc11;refine rnN 3 ?_;subst hc11;refine zb ⟨rfl, _, _, ⟨rfl, rfl⟩, .b hg16⟩
   rw [xN hg16] at hc11;obtain ⟨r12, hr12, hc11⟩ := zS hc11;refine rnN 1 ?_;refine clN rfl rfl rfl (wq.ev a0 192 591 r12 hr12 _) ?_;refine rnN 1 ?_;subst hc11;refine zb ⟨rfl, _, _, ⟨rfl, rfl⟩, .b hg16⟩
 rintro _ _ ⟨rfl, rfl⟩;refine rnN 1 ?_;obtain ⟨c13, hc13, h⟩ := zS h;refine zh 3 (fun L τ => L = [(23, .bool c13)] ∧ τ = []) ?_ ?_
 · refine zI (b := c11) 20 rfl (fun hg20 => ?_) (fun hg20 => ?_)
   · rw [if_pos hg20] at hc13;refine rnN 3 ?_;subst hc13;refine zb ⟨rfl, _, _, ⟨rfl, rfl⟩, .b hg20⟩
   rw [xN hg20] at hc13;obtain ⟨r14, hr14, hc13⟩ := zS hc13;refine rnN 1 ?_;refine clN rfl rfl rfl (wq.ev a0 913 969 r14 hr14 _) ?_;refine rnN 1 ?_;subst hc13;refine zb ⟨rfl, _, _, ⟨rfl, rfl⟩, .b hg20⟩
 rintro _ _ ⟨rfl, rfl⟩;refine rnN 1 ?_;refine nkN hK ?_;cases h;exact rtA
theorem xd.ev (a0 : Int) (r : Bool) (h : xd a0 = r) (σ : Store) : ACalls qh 104 [.int .i32 a0] σ (fun r' σ' => r' = .bool r ∧ σ' = σ) :=
 (xd.ok a0 r h).c σ
def wI (a0 : Int) : Bool :=
 bnd (wq a0 48 57) fun r1 => r1
theorem wI.ok (a0 : Int) (r : Bool) (h : wI a0 = r) : ACalls qh 105 [.int .i32 a0] [] (fun r' _ => r' = .bool r) := by
 refine zf (rs := [.tmp 2]) tok Tryz.func105 rfl Tryz.ntmps105 rfl Tryz.call105 (by simp) ?_;refine zl [(0, .int .i32 a0)] ⟨rfl, trivial⟩ ?_;unfold wI at h;refine rgN [0] ?_
 refine rc [2] fun K hK => ?_
 obtain ⟨r1, hr1, h⟩ := zS h;refine rnN 1 ?_;refine clN rfl rfl rfl (wq.ev a0 48 57 r1 hr1 _) ?_;refine rnN 1 ?_;refine nkN hK ?_;cases h;exact rtA
theorem wI.ev (a0 : Int) (r : Bool) (h : wI a0 = r) (σ : Store) : ACalls qh 105 [.int .i32 a0] σ (fun r' σ' => r' = .bool r ∧ σ' = σ) :=
 (wI.ok a0 r h).c σ
def yD.l11 (a0 : List UInt8) : Nat → Nat → Option Bool
 | 0, _ => none
 | k11 + 1, p9 => (if p9 < qb a0 then bnd (xd ((Yx a0 p9).1 : Int)) fun r15 => bnd (if (!r15) = true then bnd (if ((p9 : Nat) : Int) = 0 then true else bnd (wI ((Yx a0 p9).1 : Int)) fun r16 => !r16) fun c16 => c16 else false) fun c16 => (if c16 = true then some false else ((yD.l11 a0 k11) (p9 + (Yx a0 p9).2))) else some true)
def yD (a0 : List UInt8) : Option Bool :=
 (yJ a0).bind fun r1 => bnd (if ((decide (r1 < 1)) || (decide (20 < r1))) = true then true else bnd (xg a0) fun r5 => r5) fun c5 => (if c5 = true then some false else (yD.l11 a0 rounds 0))
theorem yD.ok (a0 : List UInt8) (r : Bool) (h : yD a0 = some r) : ACalls qh 60 [.str a0] [] (fun r' _ => r' = .bool r) := by
 refine zf (rs := [.tmp 2]) tok Tryz.func60 rfl Tryz.ntmps60 rfl Tryz.call60 (by simp) ?_;refine zl [(0, .str a0)] ⟨rfl, trivial⟩ ?_;unfold yD at h;refine rgN [0] ?_
 refine rc [0, 3] fun K hK => ?_
 obtain ⟨r1, hr1, h⟩ := bind_some h;refine rnN 1 ?_;refine clN rfl rfl rfl (yJ.ev a0 r1 hr1 _) ?_;refine rnN 1 ?_;refine nkN hK ?_
 refine za fun Z2 hZ2 => ?_
 refine rc [0, 17] fun K hK => ?_
 refine rnN 3 ?_;refine zh 3 (fun L τ => L = [(0, .str a0), (13, .bool ((decide (r1 < 1)) || (decide (20 < r1))))] ∧ τ = []) ?_ ?_
 · refine yA 10 rfl (fun hg10 => ?_) (fun hg10 => ?_)
   · have t3 := eq_true hg10;refine rnN 3 ?_;refine zb ⟨rfl, _, _, ⟨rfl, rfl⟩, .p t3⟩
   have t4 := eq_false hg10;refine rnN 3 ?_;refine zb ⟨rfl, _, _, ⟨rfl, rfl⟩, .p t4⟩
 rintro _ _ ⟨rfl, rfl⟩;refine rnN 1 ?_;obtain ⟨c5, hc5, h⟩ := zS h;refine zh 3 (fun L τ => L = [(0, .str a0), (17, .bool c5)] ∧ τ = []) ?_ ?_
 · refine zI (b := ((decide (r1 < 1)) || (decide (20 < r1)))) 14 rfl (fun hg14 => ?_) (fun hg14 => ?_)
   · rw [if_pos hg14] at hc5;refine rnN 3 ?_;subst hc5;refine zb ⟨rfl, _, _, ⟨rfl, rfl⟩, .b hg14⟩
   rw [xN hg14] at hc5;obtain ⟨r6, hr6, hc5⟩ := zS hc5;refine rnN 1 ?_;refine clN rfl rfl rfl (xg.ev a0 r6 hr6 _) ?_;refine rnN 1 ?_;subst hc5;refine zb ⟨rfl, _, _, ⟨rfl, rfl⟩, .b hg14⟩
 rintro _ _ ⟨rfl, rfl⟩;refine nkN hK ?_;refine zn (b := c5) rfl (fun hc7 => ?_) (fun hc7 => ?_)
 · rw [if_pos hc7] at h;refine rgN [2] ?_;cases h;exact rtA
 rw [xN hc7] at h;apply zd;apply hZ2
 refine za fun Z8 hZ8 => ?_
 refine rgN [19] ?_;apply ze;refine zq (fun m L τ => ∃ (k11 : Nat) (p9 : Nat), m = 0 + k11 ∧ L = [(19, .it 0)] ∧ τ = [.iter a0 p9] ∧ yD.l11 a0 k11 p9 = some r) _ ⟨rounds, 0, rfl, rfl, rfl, h⟩ .s ?_;rintro m L τ ⟨k11, p9, rfl, rfl, rfl, h⟩
 rcases k11 with _ | k11
 · cases h
 simp only [yD.l11] at h
 by_cases hn12 : p9 < qb a0
 · rw [if_pos hn12] at h;have t13 := eq_true hn12
   refine rg tok [19, 20, 21] fun K hK => ?_
   simp only [go_sem, qc, qa, qd, X9, if_true, if_false, t13];apply hK
   refine za fun Z14 hZ14 => ?_
   refine zp rfl ?_;apply zd;apply hZ14;apply ze;refine rgN [4, 5, 19] ?_
   refine rc [19, 35] fun K hK => ?_
   obtain ⟨r15, hr15, h⟩ := zS h;refine rnN 1 ?_;refine clN rfl rfl rfl (xd.ev ((Yx a0 p9).1 : Int) r15 hr15 _) ?_;refine rnN 2 ?_;obtain ⟨c16, hc16, h⟩ := zS h;refine zh 8 (fun L τ => L = [(19, .it 0), (35, .bool c16)] ∧ τ = [.iter a0 (p9 + (Yx a0 p9).2)]) ?_ ?_
   · refine zI (b := (!r15)) 27 rfl (fun hg27 => ?_) (fun hg27 => ?_)
     · rw [if_pos hg27] at hc16;refine rnN 3 ?_;obtain ⟨c17, hc17, hc16⟩ := zS hc16;refine zh 4 (fun L τ => L = [(19, .it 0), (27, .bool true), (34, .bool c17)] ∧ τ = [.iter a0 (p9 + (Yx a0 p9).2)]) ?_ ?_
       · refine yA 30 rfl (fun hg30 => ?_) (fun hg30 => ?_)
         · have t18 := eq_true hg30;rw [if_pos hg30] at hc17;refine rnN 4 ?_;subst hc17;refine zb ⟨rfl, _, _, ⟨rfl, rfl⟩, .p t18⟩
         have t19 := eq_false hg30;rw [if_neg hg30] at hc17;obtain ⟨r20, hr20, hc17⟩ := zS hc17;refine rnN 1 ?_;refine clN rfl rfl rfl (wI.ev ((Yx a0 p9).1 : Int) r20 hr20 _) ?_;refine rnN 2 ?_;subst hc17;refine zb ⟨rfl, _, _, ⟨rfl, rfl⟩, .p t19⟩
       rintro _ _ ⟨rfl, rfl⟩;refine rnN 1 ?_;subst hc16;refine zb ⟨rfl, _, _, ⟨rfl, rfl⟩, .b hg27⟩
     rw [xN hg27] at hc16;refine rnN 8 ?_;subst hc16;refine zb ⟨rfl, _, _, ⟨rfl, rfl⟩, .b hg27⟩
   rintro _ _ ⟨rfl, rfl⟩;refine nkN hK ?_;refine zn (b := c16) rfl (fun hc21 => ?_) (fun hc21 => ?_)
   · rw [if_pos hc21] at h;refine rgN [2] ?_;cases h;exact rtA
   rw [xN hc21] at h;apply zd;exact ⟨_, _, _, qr (0 + k11), ⟨k11, p9 + (Yx a0 p9).2, rfl, rfl, rfl, h⟩, .s⟩
 rw [if_neg hn12] at h;have t22 := eq_false hn12
 refine rg tok [19, 20, 21] fun K hK => ?_
 simp only [go_sem, qc, qa, X9, if_true, if_false, t22];apply hK
 refine za fun Z23 hZ23 => ?_
 refine zm rfl ?_;apply zv;apply hZ8;refine rgN [2] ?_;cases h;exact rtA
theorem yD.ev (a0 : List UInt8) (r : Bool) (h : yD a0 = some r) (σ : Store) : ACalls qh 60 [.str a0] σ (fun r' σ' => r' = .bool r ∧ σ' = σ) :=
 (yD.ok a0 r h).c σ
def yi (a0 : List (List UInt8 × Bool)) (a1 : List UInt8) : Option (Bool × List (List UInt8 × Bool)) :=
 (yD a1).bind fun r2 => (if ((!r2) || ((vaE a0 a1).getD false)) = true then some (false, a0) else some (true, vaN a0 a1 true))
theorem yi.ok (a0 : List (List UInt8 × Bool)) (a1 : List UInt8) (r : Bool × List (List UInt8 × Bool)) (h : yi a0 a1 = some r) : ACalls qh 63 [.mp 0, .str a1] [.map (wu AV.str AV.bool a0)] (fun r' σ' => r' = .bool r.1 ∧ σ' = [.map (wu AV.str AV.bool r.2)]) := by
 refine YU [0] (rs := [.tmp 4]) tok Tryz.func63 rfl Tryz.ntmps63 rfl Tryz.call63 (by simp) rfl ?_;refine zl [(0, .mp 0), (1, .str a1)] ⟨rfl, rfl, trivial⟩ ?_;unfold yi at h;refine rgN [0, 1] ?_
 refine za fun Z1 hZ1 => ?_
 refine rc [0, 1, 12] fun K hK => ?_
 obtain ⟨r2, hr2, h⟩ := bind_some h;refine rnN 1 ?_;refine clN rfl rfl rfl (yD.ev a1 r2 hr2 _) ?_;refine rnN 2 ?_;refine zh 4 (fun L τ => L = [(0, .mp 0), (1, .str a1), (12, .bool ((!r2) || ((vaE a0 a1).getD false)))] ∧ τ = [.map (wu AV.str AV.bool a0)]) ?_ ?_
 · refine zI (b := (!r2)) 8 rfl (fun hg8 => ?_) (fun hg8 => ?_)
   · refine zj tok 4 ?_;simp only [go_sem, qc, qa, reduceCtorEq, if_false, if_true];refine zb ⟨rfl, _, _, ⟨rfl, rfl⟩, .b hg8⟩
   have f3 := fun (x : Store) => vbe (T := tab) (t := 117) (ek := AV.str) (ev := AV.bool) (z := false) (KeyE.str rfl rfl rfl rfl) rfl rfl rfl rfl a0 a1 false (.map (wu AV.str AV.bool a0) :: x) 0 rfl
   refine zj tok 4 ?_;simp only [go_sem, qc, qa, reduceCtorEq, XJ, q3, if_false, if_true, f3];refine zb ⟨rfl, _, _, ⟨rfl, rfl⟩, .b hg8⟩
 rintro _ _ ⟨rfl, rfl⟩;refine nkN hK ?_;refine zn (b := ((!r2) || ((vaE a0 a1).getD false))) rfl (fun hc4 => ?_) (fun hc4 => ?_)
 · rw [if_pos hc4] at h;refine rgN [4] ?_;apply yB;cases h;simp only [ZC, yQ, xb, xR, exists_eq_left', go_sem];refine ⟨by decide, by simp, ?_, ?_⟩
   · first | rfl | (simp only [go_sem, qc, qf, qa, qd, qq, qC, reduceIte, reduceCtorEq, push_cast, if_true, qy, qm, qG, qw, qD, qK, qR, qN, qL, qH, qx, zB] <;> rfl)
   first | rfl | (simp only [go_sem, push_cast, qw] <;> rfl)
 rw [xN hc4] at h;apply zd;apply hZ1
 have f5 := fun (x : Store) => va9 (T := tab) (t := 117) (ek := AV.str) (ev := AV.bool) (KeyE.str rfl rfl rfl rfl) rfl rfl a0 a1 true (.map (wu AV.str AV.bool a0) :: x) 0 rfl
 refine rg tok [] fun K hK => ?_
 simp only [go_sem, qc, qa, reduceCtorEq, f5];apply hK
 refine rgN [4] ?_;apply yB;cases h;simp only [ZC, yQ, xb, xR, exists_eq_left', go_sem];refine ⟨by decide, by simp, ?_, ?_⟩
 · first | rfl | (simp only [go_sem, qc, qf, qa, qd, qq, qC, reduceIte, reduceCtorEq, push_cast, if_true, qy, qm, qG, qw, qD, qK, qR, qN, qL, qH, qx, zB] <;> rfl)
 first | rfl | (simp only [go_sem, push_cast, qw] <;> rfl)
def wP (a0 : Int) : Bool :=
 ((decide (1 ≤ a0)) && (decide (a0 ≤ 500)))
theorem wP.ok (a0 : Int) (r : Bool) (h : wP a0 = r) : ACalls qh 106 [.int .i64 a0] [] (fun r' _ => r' = .bool r) := by
 refine zf (rs := [.tmp 2]) tok Tryz.func106 rfl Tryz.ntmps106 rfl Tryz.call106 (by simp) ?_;refine zl [(0, .int .i64 a0)] ⟨rfl, trivial⟩ ?_;unfold wP at h;refine rgN [0] ?_
 refine rc [2] fun K hK => ?_
 refine rnN 3 ?_;refine zh 3 (fun L τ => L = [(8, .bool ((decide (1 ≤ a0)) && (decide (a0 ≤ 500))))] ∧ τ = []) ?_ ?_
 · refine yA 5 rfl (fun hg5 => ?_) (fun hg5 => ?_)
   · have t1 := eq_true hg5;refine rnN 3 ?_;refine zb ⟨rfl, _, _, ⟨rfl, rfl⟩, .p t1⟩
   have t2 := eq_false hg5;refine rnN 3 ?_;refine zb ⟨rfl, _, _, ⟨rfl, rfl⟩, .p t2⟩
 rintro _ _ ⟨rfl, rfl⟩;refine rnN 1 ?_;refine nkN hK ?_;cases h;exact rtA
theorem wP.ev (a0 : Int) (r : Bool) (h : wP a0 = r) (σ : Store) : ACalls qh 106 [.int .i64 a0] σ (fun r' σ' => r' = .bool r ∧ σ' = σ) :=
 (wP.ok a0 r h).c σ
def xx.l4 (a1 : List UInt8) : List GEnumeration → Int → GEnumeration × Bool
 | [], x2 => ((⟨[], ([] : List GNamed)⟩ : GEnumeration), false)
 | y4 :: q4, x2 => (if y4.fName = a1 then (y4, true) else ((xx.l4 a1 q4) (x2 + 1)))
def xx (a0 : GSchema) (a1 : List UInt8) : GEnumeration × Bool :=
 (xx.l4 a1 a0.fEnums 0)
theorem xx.ok (a0 : GSchema) (a1 : List UInt8) (r : GEnumeration × Bool) (h : xx a0 a1 = r) : ACalls qh 140 [.agg (encGSchema a0), .str a1] [] (fun r' _ => r' = .tup [.agg (encGEnumeration r.1), .bool r.2]) := by
 refine zf (rs := [.cell 4 84, .tmp 5]) tok Tryz.func140 rfl Tryz.ntmps140 rfl Tryz.call140 (by simp) ?_;refine zl [(0, .agg (encGSchema a0)), (1, .str a1)] ⟨rfl, rfl, trivial⟩ ?_;unfold xx at h
 refine rg tok [1, 2, 4] fun K hK => ?_
 simp only [go_sem, qc, qa, qd, reduceCtorEq, encGSchema];apply hK
 refine za fun Z1 hZ1 => ?_
 refine rgN [1, 4, 9, 10, 11] ?_;apply ze
 refine yP 9 fun hb4 => ?_
 replace hb4 : qb a0.fEnums ≤ 9223372036854775807 := hb4.1;refine zq (fun m L τ => ∃ (p4 q4 : List GEnumeration) (x2 : Int), m = qb q4 ∧ L = [(1, .str a1), (4, .op 0 0 0), (9, .ds true (qe encGEnumeration a0.fEnums) (qb a0.fEnums) false), (10, .int .i64 (qb a0.fEnums : Int)), (11, .int .i64 x2)] ∧ τ = [.cells 0 [.str [], .ds true [] 0 true]] ∧ a0.fEnums = p4 ++ q4 ∧ x2 = (qb p4 : Int) ∧ xx.l4 a1 q4 x2 = r) _ ⟨[], a0.fEnums, 0, rfl, rfl, rfl, rfl, rfl, h⟩ (.t [1] false) ?_;rintro m L τ ⟨p4, q4, x2, rfl, rfl, rfl, hE4, hi4, h⟩
 rcases q4 with _ | ⟨y4, q4⟩
 · have hz4 := yl hE4 hi4;simp only [xx.l4] at h
   refine rg tok [1, 4, 9, 10, 11, 12] fun K hK => ?_
   simp only [go_sem, qc, qa, hz4];apply hK
   refine za fun Z5 hZ5 => ?_
   refine zm rfl ?_;apply zv;apply hZ1;refine rgN [4, 5] ?_;cases h;exact rtA
 obtain ⟨hz4, hw4, hx4, hE'4, hi'4⟩ := zW hE4 hi4 hb4;simp only [xx.l4] at h
 refine rg tok [1, 4, 9, 10, 11, 12] fun K hK => ?_
 simp only [go_sem, qc, qa, hz4];apply hK
 refine za fun Z6 hZ6 => ?_
 refine zp rfl ?_;apply zd;apply hZ6
 refine za fun Z7 hZ7 => ?_
 apply ze;have f8 := E23.idxS hx4;have f9 := E23.loadS rfl rfl hx4
 refine rg tok [1, 4, 7, 9, 10, 11] fun K hK => ?_
 simp only [go_sem, qc, qf, qa, qd, encGEnumeration, f8, f9];apply hK
 refine rgN [1, 4, 7, 9, 10, 11, 18] ?_;refine zx rfl (fun hc10 => ?_) (fun hc10 => ?_)
 · rw [if_pos hc10] at h;have t11 := eq_true hc10
   refine rg tok [4, 5] fun K hK => ?_
   simp only [go_sem, qc, qf, qa, qd, t11];apply hK
   cases h;exact rtA
 rw [if_neg hc10] at h;have t12 := eq_false hc10;apply zd;apply hZ7
 refine rgE tok [1, 4, 9, 10, 11] fun K hK => ?_
 simp only [go_sem, qc, qa, hw4, t12];apply hK
 exact ⟨_, _, _, qr q4.length, ⟨p4 ++ [y4], q4, x2 + 1, rfl, rfl, rfl, hE'4, hi'4, h⟩, (.t [0] false)⟩
theorem xx.ev (a0 : GSchema) (a1 : List UInt8) (r : GEnumeration × Bool) (h : xx a0 a1 = r) (σ : Store) : ACalls qh 140 [.agg (encGSchema a0), .str a1] σ (fun r' σ' => r' = .tup [.agg (encGEnumeration r.1), .bool r.2] ∧ σ' = σ) :=
 (xx.ok a0 a1 r h).c σ
def xU (a0 : GSchema) (a1 : GField) : Bool :=
 (if a1.fType.fKind = 6 then bnd (xx a0 a1.fType.fName) fun r6 => (((decide (1 ≤ a1.fLabel)) && (decide (a1.fLabel ≤ 3))) && r6.2) else (if a1.fType.fKind = 7 then bnd (zD a0 a1.fType.fName) fun r10 => (((decide (1 ≤ a1.fLabel)) && (decide (a1.fLabel ≤ 3))) && r10.2) else (((((decide (1 ≤ a1.fLabel)) && (decide (a1.fLabel ≤ 3))) && (decide (1 ≤ a1.fType.fKind))) && (decide (a1.fType.fName = []))) && (decide (a1.fType.fKind < 6)))))
theorem xU.ok (a0 : GSchema) (a1 : GField) (r : Bool) (h : xU a0 a1 = r) : ACalls qh 107 [.agg (encGSchema a0), .agg (encGField a1)] [] (fun r' _ => r' = .bool r) := by
 refine zf (rs := [.tmp 4]) tok Tryz.func107 rfl Tryz.ntmps107 rfl Tryz.call107 (by simp) ?_;refine zl [(0, .agg (encGSchema a0)), (1, .agg (encGField a1))] ⟨rfl, rfl, trivial⟩ ?_;unfold xU at h
 refine rg tok [2, 3] fun K hK => ?_
 simp only [go_sem, qc, qa, qd, reduceCtorEq, encGField, encGSchema];apply hK
 refine rc [2, 3, 5] fun K hK => ?_
 refine rnN 4 ?_;refine zh 4 (fun L τ => L = [(2, .op 0 0 0), (3, .op 1 0 0), (17, .bool ((decide (1 ≤ a1.fLabel)) && (decide (a1.fLabel ≤ 3))))] ∧ τ = [.cells 0 (encGSchema a0), .cells 0 (encGField a1)]) ?_ ?_
 · refine yA 13 rfl (fun hg13 => ?_) (fun hg13 => ?_)
   · have t1 := eq_true hg13;refine rnN 4 ?_;refine zb ⟨rfl, _, _, ⟨rfl, rfl⟩, .p t1⟩
   have t2 := eq_false hg13;refine rnN 4 ?_;refine zb ⟨rfl, _, _, ⟨rfl, rfl⟩, .p t2⟩
 rintro _ _ ⟨rfl, rfl⟩;refine rnN 1 ?_;refine nkN hK ?_
 refine za fun Z3 hZ3 => ?_
 refine rgN [2, 3, 5, 20] ?_;apply ze;refine rgN [2, 3, 5, 20, 21] ?_;refine zx rfl (fun hc4 => ?_) (fun hc4 => ?_)
 · rw [if_pos hc4] at h;have t5 := eq_true hc4
   refine rc [5, 7] fun K hK => ?_
   obtain ⟨r6, hr6, h⟩ := zS h;refine zj tok 4 ?_;simp only [go_sem, qc, qf, qa, qd, t5];refine clN rfl rfl rfl (xx.ev a0 a1.fType.fName r6 hr6 _) ?_;refine zj tok 6 ?_;simp only [go_sem, qc, qf, qa, qd, encGEnumeration];refine nkN hK ?_
   refine rc [4] fun K hK => ?_
   refine rnN 2 ?_;refine zh 2 (fun L τ => L = [(34, .bool (((decide (1 ≤ a1.fLabel)) && (decide (a1.fLabel ≤ 3))) && r6.2))] ∧ τ = [.cells 0 (encGSchema a0), .cells 0 (encGField a1), .cells 0 (encGEnumeration r6.1)]) ?_ ?_
   · refine zI (b := ((decide (1 ≤ a1.fLabel)) && (decide (a1.fLabel ≤ 3)))) 32 rfl (fun hg32 => ?_) (fun hg32 => ?_)
     · refine rnN 2 ?_;refine zb ⟨rfl, _, _, ⟨rfl, rfl⟩, .b hg32⟩
     refine rnN 2 ?_;refine zb ⟨rfl, _, _, ⟨rfl, rfl⟩, .b hg32⟩
   rintro _ _ ⟨rfl, rfl⟩;refine rnN 1 ?_;refine nkN hK ?_;cases h;exact rtA
 rw [if_neg hc4] at h;have t7 := eq_false hc4
 refine rg tok [2, 3, 5, 35] fun K hK => ?_
 simp only [go_sem, qc, qa, t7];apply hK
 refine zx rfl (fun hc8 => ?_) (fun hc8 => ?_)
 · rw [if_pos hc8] at h;have t9 := eq_true hc8
   refine rc [5, 9] fun K hK => ?_
   obtain ⟨r10, hr10, h⟩ := zS h;refine zj tok 4 ?_;simp only [go_sem, qc, qf, qa, qd, t9];refine clN rfl rfl rfl (zD.ev a0 a1.fType.fName r10 hr10 _) ?_;refine zj tok 6 ?_;simp only [go_sem, qc, qf, qa, qd, encGMessage];refine nkN hK ?_
   refine rc [4] fun K hK => ?_
   refine rnN 2 ?_;refine zh 2 (fun L τ => L = [(48, .bool (((decide (1 ≤ a1.fLabel)) && (decide (a1.fLabel ≤ 3))) && r10.2))] ∧ τ = [.cells 0 (encGSchema a0), .cells 0 (encGField a1), .cells 0 (encGMessage r10.1)]) ?_ ?_
   · refine zI (b := ((decide (1 ≤ a1.fLabel)) && (decide (a1.fLabel ≤ 3)))) 46 rfl (fun hg46 => ?_) (fun hg46 => ?_)
     · refine rnN 2 ?_;refine zb ⟨rfl, _, _, ⟨rfl, rfl⟩, .b hg46⟩
     refine rnN 2 ?_;refine zb ⟨rfl, _, _, ⟨rfl, rfl⟩, .b hg46⟩
   rintro _ _ ⟨rfl, rfl⟩;refine rnN 1 ?_;refine nkN hK ?_;cases h;exact rtA
 rw [if_neg hc8] at h;have t11 := eq_false hc8;apply zd;apply hZ3
 refine rc [4] fun K hK => ?_
 refine zj tok 2 ?_;simp only [go_sem, qc, qa, t11];refine zh 5 (fun L τ => L = [(3, .op 1 0 0), (55, .bool (((decide (1 ≤ a1.fLabel)) && (decide (a1.fLabel ≤ 3))) && (decide (1 ≤ a1.fType.fKind))))] ∧ τ = [.cells 0 (encGSchema a0), .cells 0 (encGField a1)]) ?_ ?_
 · refine zI (b := ((decide (1 ≤ a1.fLabel)) && (decide (a1.fLabel ≤ 3)))) 50 rfl (fun hg50 => ?_) (fun hg50 => ?_)
   · refine rnN 5 ?_;refine zb ⟨rfl, _, _, ⟨rfl, rfl⟩, .b hg50⟩
   refine rnN 5 ?_;refine zb ⟨rfl, _, _, ⟨rfl, rfl⟩, .b hg50⟩
 rintro _ _ ⟨rfl, rfl⟩;refine rnN 1 ?_;refine zh 8 (fun L τ => L = [(3, .op 1 0 0), (64, .bool ((((decide (1 ≤ a1.fLabel)) && (decide (a1.fLabel ≤ 3))) && (decide (1 ≤ a1.fType.fKind))) && (decide (a1.fType.fName = []))))] ∧ τ = [.cells 0 (encGSchema a0), .cells 0 (encGField a1)]) ?_ ?_
 · refine zI (b := (((decide (1 ≤ a1.fLabel)) && (decide (a1.fLabel ≤ 3))) && (decide (1 ≤ a1.fType.fKind)))) 56 rfl (fun hg56 => ?_) (fun hg56 => ?_)
   · refine zj tok 8 ?_;simp only [go_sem, qc, qf, qa, qd, evEqA, ceqL, ceq];refine zb ⟨rfl, _, _, ⟨rfl, rfl⟩, .b hg56⟩
   refine rnN 8 ?_;refine zb ⟨rfl, _, _, ⟨rfl, rfl⟩, .b hg56⟩
 rintro _ _ ⟨rfl, rfl⟩;refine rnN 1 ?_;refine zh 5 (fun L τ => L = [(70, .bool (((((decide (1 ≤ a1.fLabel)) && (decide (a1.fLabel ≤ 3))) && (decide (1 ≤ a1.fType.fKind))) && (decide (a1.fType.fName = []))) && (decide (a1.fType.fKind < 6))))] ∧ τ = [.cells 0 (encGSchema a0), .cells 0 (encGField a1)]) ?_ ?_
 · refine zI (b := ((((decide (1 ≤ a1.fLabel)) && (decide (a1.fLabel ≤ 3))) && (decide (1 ≤ a1.fType.fKind))) && (decide (a1.fType.fName = [])))) 65 rfl (fun hg65 => ?_) (fun hg65 => ?_)
   · refine rnN 5 ?_;refine zb ⟨rfl, _, _, ⟨rfl, rfl⟩, .b hg65⟩
   refine rnN 5 ?_;refine zb ⟨rfl, _, _, ⟨rfl, rfl⟩, .b hg65⟩
 rintro _ _ ⟨rfl, rfl⟩;refine rnN 1 ?_;refine nkN hK ?_;cases h;exact rtA
theorem xU.ev (a0 : GSchema) (a1 : GField) (r : Bool) (h : xU a0 a1 = r) (σ : Store) : ACalls qh 107 [.agg (encGSchema a0), .agg (encGField a1)] σ (fun r' σ' => r' = .bool r ∧ σ' = σ) :=
 (xU.ok a0 a1 r h).c σ
def zG.l21 (a0 : GSchema) (r2 : Bool × List (List UInt8 × Bool)) : List GField → Int → List (Int × Bool) → List (List UInt8 × Bool) → Option (Int × List (List UInt8 × Bool))
 | [], x17, l15, l16 => some (0, r2.2)
 | y21 :: q21, x17, l15, l16 => (yi l16 y21.fName).bind fun r28 => (if (!r28.1) = true then some (6, r2.2) else bnd (wP y21.fTag) fun r30 => (if ((!r30) || ((vaE l15 y21.fTag).getD false)) = true then some (7, r2.2) else bnd (xU a0 y21) fun r33 => (if (!r33) = true then some (8, r2.2) else ((zG.l21 a0 r2 q21) (x17 + 1) (vaN l15 y21.fTag true) r28.2))))
def zG.l12 (a0 : GSchema) (a2 : GMessage) (r2 : Bool × List (List UInt8 × Bool)) : List Int → Int → List (Int × Bool) → Option (Int × List (List UInt8 × Bool))
 | [], x9, l8 => (zG.l21 a0 r2 a2.fFields 0 l8 [])
 | y12 :: q12, x9, l8 => bnd (wP y12) fun r41 => (if ((!r41) || ((vaE l8 y12).getD false)) = true then some (7, r2.2) else ((zG.l12 a0 a2 r2 q12) (x9 + 1) (vaN l8 y12 true)))
def zG (a0 : GSchema) (a1 : List (List UInt8 × Bool)) (a2 : GMessage) : Option (Int × List (List UInt8 × Bool)) :=
 (yi a1 a2.fName).bind fun r2 => (if (!r2.1) = true then some (6, r2.2) else (if ((decide (16 < (qb a2.fFields : Int))) || (decide (32 < (qb a2.fReserved : Int)))) = true then some (4, r2.2) else (zG.l12 a0 a2 r2 a2.fReserved 0 [])))
theorem zG.ok (a0 : GSchema) (a1 : List (List UInt8 × Bool)) (a2 : GMessage) (r : Int × List (List UInt8 × Bool)) (h : zG a0 a1 a2 = some r) : ACalls qh 61 [.agg (encGSchema a0), .mp 0, .agg (encGMessage a2)] [.map (wu AV.str AV.bool a1)] (fun r' σ' => r' = .int .i64 r.1 ∧ σ' = [.map (wu AV.str AV.bool r.2)]) := by
 refine YU [0] (rs := [.tmp 6]) tok Tryz.func61 rfl Tryz.ntmps61 rfl Tryz.call61 (by simp) rfl ?_;refine zl [(0, .agg (encGSchema a0)), (1, .mp 0), (2, .agg (encGMessage a2))] ⟨rfl, rfl, rfl, trivial⟩ ?_;unfold zG at h
 refine rg tok [1, 3, 5] fun K hK => ?_
 simp only [go_sem, qc, qa, qd, reduceCtorEq, encGMessage, encGSchema];apply hK
 refine za fun Z1 hZ1 => ?_
 apply ze
 refine rc [3, 5, 13] fun K hK => ?_
 obtain ⟨r2, hr2, h⟩ := bind_some h;refine rnN 3 ?_;refine clN rfl rfl rfl (@id (ACalls qh 63 [.mp 0, .str a2.fName] [.map (wu AV.str AV.bool a1), .cells 0 (encGSchema a0), .cells 0 (encGMessage a2)] (fun r' σ' => r' = .bool r2.1 ∧ σ' = [.map (wu AV.str AV.bool r2.2), .cells 0 (encGSchema a0), .cells 0 (encGMessage a2)])) ((yi.ok a1 a2.fName r2 hr2).i [0])) ?_;refine rnN 2 ?_;refine nkN hK ?_;refine zn (b := (!r2.1)) rfl (fun hc3 => ?_) (fun hc3 => ?_)
 · rw [if_pos hc3] at h;refine rgN [6] ?_;apply yB;cases h;simp only [ZC, yQ, xb, xR, exists_eq_left', go_sem, qd];refine ⟨by decide, by simp, ?_, ?_⟩
   · first | rfl | (simp only [go_sem, qc, qf, qa, qd, qq, qC, reduceIte, reduceCtorEq, push_cast, if_true, qy, qm, qG, qw, qD, qK, qR, qN, qL, qH, qx, zB] <;> rfl)
   first | rfl | (simp only [go_sem, push_cast, qw] <;> rfl)
 rw [xN hc3] at h
 refine rc [3, 5, 19] fun K hK => ?_
 refine rnN 5 ?_;refine zh 5 (fun L τ => L = [(3, .op 1 0 0), (5, .op 2 0 0), (29, .bool ((decide (16 < (qb a2.fFields : Int))) || (decide (32 < (qb a2.fReserved : Int)))))] ∧ τ = [.map (wu AV.str AV.bool r2.2), .cells 0 (encGSchema a0), .cells 0 (encGMessage a2)]) ?_ ?_
 · refine yA 24 rfl (fun hg24 => ?_) (fun hg24 => ?_)
   · have t4 := eq_true hg24;refine rnN 5 ?_;refine zb ⟨rfl, _, _, ⟨rfl, rfl⟩, .p t4⟩
   have t5 := eq_false hg24;refine rnN 5 ?_;refine zb ⟨rfl, _, _, ⟨rfl, rfl⟩, .p t5⟩
 rintro _ _ ⟨rfl, rfl⟩;refine rnN 1 ?_;refine nkN hK ?_;refine zn (b := ((decide (16 < (qb a2.fFields : Int))) || (decide (32 < (qb a2.fReserved : Int))))) rfl (fun hc6 => ?_) (fun hc6 => ?_)
 · rw [if_pos hc6] at h;refine rgN [6] ?_;apply yB;cases h;simp only [ZC, yQ, xb, xR, exists_eq_left', go_sem, qd];refine ⟨by decide, by simp, ?_, ?_⟩
   · first | rfl | (simp only [go_sem, qc, qf, qa, qd, qq, qC, reduceIte, reduceCtorEq, push_cast, if_true, qy, qm, qG, qw, qD, qK, qR, qN, qL, qH, qx, zB] <;> rfl)
   first | rfl | (simp only [go_sem, push_cast, qw] <;> rfl)
 rw [xN hc6] at h;apply zd;apply hZ1;refine rgN [3, 5, 7] ?_;refine zU (L := [(3, .op 1 0 0), (5, .op 2 0 0), (7, .mp 3)]) (τ := [.map (wu AV.str AV.bool r2.2), .cells 0 (encGSchema a0), .cells 0 (encGMessage a2), .map (wu (AV.int .i64) AV.bool [])]) .s ?_
 refine za fun Z7 hZ7 => ?_
 refine rgN [3, 5, 7, 32, 33, 34] ?_;apply ze
 refine yP 32 fun hb12 => ?_
 replace hb12 : qb a2.fReserved ≤ 9223372036854775807 := hb12.1;refine zq (fun m L τ => ∃ (p12 q12 : List Int) (x9 : Int) (l8 : List (Int × Bool)), m = qb q12 ∧ L = [(3, .op 1 0 0), (5, .op 2 0 0), (7, .mp 3), (32, .ds true (qe encI a2.fReserved) (qb a2.fReserved) false), (33, .int .i64 (qb a2.fReserved : Int)), (34, .int .i64 x9)] ∧ τ = [.map (wu AV.str AV.bool r2.2), .cells 0 (encGSchema a0), .cells 0 (encGMessage a2), .map (wu (AV.int .i64) AV.bool l8)] ∧ a2.fReserved = p12 ++ q12 ∧ x9 = (qb p12 : Int) ∧ zG.l12 a0 a2 r2 q12 x9 l8 = some r) _ ⟨[], a2.fReserved, 0, [], rfl, rfl, rfl, rfl, rfl, h⟩ .s ?_;rintro m L τ ⟨p12, q12, x9, l8, rfl, rfl, rfl, hE12, hi12, h⟩
 rcases q12 with _ | ⟨y12, q12⟩
 · have hz12 := yl hE12 hi12;simp only [zG.l12] at h
   refine rg tok [3, 5, 7, 32, 33, 34, 35] fun K hK => ?_
   simp only [go_sem, qc, qa, hz12];apply hK
   refine za fun Z13 hZ13 => ?_
   refine zm rfl ?_;apply zv;apply hZ7;refine rgN [3, 5, 7, 10] ?_;refine zU (L := [(3, .op 1 0 0), (5, .op 2 0 0), (7, .mp 3), (10, .mp 4)]) (τ := [.map (wu AV.str AV.bool r2.2), .cells 0 (encGSchema a0), .cells 0 (encGMessage a2), .map (wu (AV.int .i64) AV.bool l8), .map (wu AV.str AV.bool [])]) .s ?_
   refine za fun Z14 hZ14 => ?_
   refine rgN [3, 7, 10, 51, 52, 53] ?_;apply ze
   refine yP 51 fun hb21 => ?_
   replace hb21 : qb a2.fFields ≤ 9223372036854775807 := hb21.1;refine zq (fun m L τ => ∃ (p21 q21 : List GField) (x17 : Int) (l15 : List (Int × Bool)) (l16 : List (List UInt8 × Bool)), m = qb q21 ∧ L = [(3, .op 1 0 0), (7, .mp 2), (10, .mp 3), (51, .ds true (qe encGField a2.fFields) (qb a2.fFields) false), (52, .int .i64 (qb a2.fFields : Int)), (53, .int .i64 x17)] ∧ τ = [.map (wu AV.str AV.bool r2.2), .cells 0 (encGSchema a0), .map (wu (AV.int .i64) AV.bool l15), .map (wu AV.str AV.bool l16)] ∧ a2.fFields = p21 ++ q21 ∧ x17 = (qb p21 : Int) ∧ zG.l21 a0 r2 q21 x17 l15 l16 = some r) _ ⟨[], a2.fFields, 0, l8, [], rfl, rfl, rfl, rfl, rfl, h⟩ (.t [0, 1, 3, 4] false) ?_;rintro m L τ ⟨p21, q21, x17, l15, l16, rfl, rfl, rfl, hE21, hi21, h⟩
   rcases q21 with _ | ⟨y21, q21⟩
   · have hz21 := yl hE21 hi21;simp only [zG.l21] at h
     refine rg tok [3, 7, 10, 51, 52, 53, 54] fun K hK => ?_
     simp only [go_sem, qc, qa, hz21];apply hK
     refine za fun Z22 hZ22 => ?_
     refine zm rfl ?_;apply zv;apply hZ14;refine rgN [6] ?_;apply yB;cases h;simp only [ZC, yQ, xb, xR, exists_eq_left', go_sem, qd];refine ⟨by decide, by simp, ?_, ?_⟩
     · first | rfl | (simp only [go_sem, qc, qf, qa, qd, qq, qC, reduceIte, reduceCtorEq, push_cast, if_true, qy, qm, qG, qw, qD, qK, qR, qN, qL, qH, qx, zB] <;> rfl)
     first | rfl | (simp only [go_sem, push_cast, qw] <;> rfl)
   obtain ⟨hz21, hw21, hx21, hE'21, hi'21⟩ := zW hE21 hi21 hb21;simp only [zG.l21] at h
   refine rg tok [3, 7, 10, 51, 52, 53, 54] fun K hK => ?_
   simp only [go_sem, qc, qa, hz21];apply hK
   refine za fun Z23 hZ23 => ?_
   refine zp rfl ?_;apply zd;apply hZ23
   refine za fun Z24 hZ24 => ?_
   apply ze;have f25 := E47.idxS hx21;have f26 := E47.loadS rfl rfl hx21
   refine rg tok [3, 7, 10, 12, 51, 52, 53] fun K hK => ?_
   simp only [go_sem, qc, qf, qa, qd, encGField, f25, f26];apply hK
   refine za fun Z27 hZ27 => ?_
   apply ze
   refine rc [3, 7, 10, 12, 51, 52, 53, 57] fun K hK => ?_
   obtain ⟨r28, hr28, h⟩ := bind_some h;refine rnN 3 ?_;refine clN rfl rfl rfl (@id (ACalls qh 63 [.mp 3, .str y21.fName] [.map (wu AV.str AV.bool r2.2), .cells 0 (encGSchema a0), .map (wu (AV.int .i64) AV.bool l15), .map (wu AV.str AV.bool l16), .cells 0 (encGField y21)] (fun r' σ' => r' = .bool r28.1 ∧ σ' = [.map (wu AV.str AV.bool r2.2), .cells 0 (encGSchema a0), .map (wu (AV.int .i64) AV.bool l15), .map (wu AV.str AV.bool r28.2), .cells 0 (encGField y21)])) ((yi.ok l16 y21.fName r28 hr28).i [3])) ?_;refine rnN 2 ?_;refine nkN hK ?_;refine zn (b := (!r28.1)) rfl (fun hc29 => ?_) (fun hc29 => ?_)
   · rw [if_pos hc29] at h;refine rgN [6] ?_;apply yB;cases h;simp only [ZC, yQ, xb, xR, exists_eq_left', go_sem, qd];refine ⟨by decide, by simp, ?_, ?_⟩
     · first | rfl | (simp only [go_sem, qc, qf, qa, qd, qq, qC, reduceIte, reduceCtorEq, push_cast, if_true, qy, qm, qG, qw, qD, qK, qR, qN, qL, qH, qx, zB] <;> rfl)
     first | rfl | (simp only [go_sem, push_cast, qw] <;> rfl)
   rw [xN hc29] at h
   refine rc [3, 7, 10, 12, 51, 52, 53, 63] fun K hK => ?_
   obtain ⟨r30, hr30, h⟩ := zS h;refine rnN 2 ?_;refine clN rfl rfl rfl (wP.ev y21.fTag r30 hr30 _) ?_;refine rnN 2 ?_;refine zh 5 (fun L τ => L = [(3, .op 1 0 0), (7, .mp 2), (10, .mp 3), (12, .op 4 0 0), (51, .ds true (qe encGField a2.fFields) (qb a2.fFields) false), (52, .int .i64 (qb a2.fFields : Int)), (53, .int .i64 x17), (73, .bool ((!r30) || ((vaE l15 y21.fTag).getD false)))] ∧ τ = [.map (wu AV.str AV.bool r2.2), .cells 0 (encGSchema a0), .map (wu (AV.int .i64) AV.bool l15), .map (wu AV.str AV.bool r28.2), .cells 0 (encGField y21)]) ?_ ?_
   · refine zI (b := (!r30)) 68 rfl (fun hg68 => ?_) (fun hg68 => ?_)
     · refine zj tok 5 ?_;simp only [go_sem, qc, qa, if_false, if_true];refine zb ⟨rfl, _, _, ⟨rfl, rfl⟩, .b hg68⟩
     have f31 := fun (o0 : ZR) (o1 : ZR) (x : Store) => vbe (T := tab) (t := 161) (ek := (AV.int .i64)) (ev := AV.bool) (z := false) (KeyE.int rfl rfl rfl rfl) rfl rfl rfl rfl l15 y21.fTag false (o0 :: o1 :: .map (wu (AV.int .i64) AV.bool l15) :: x) 2 rfl
     refine zj tok 5 ?_;simp only [go_sem, qc, qa, qd, XJ, q3, if_false, if_true, f31];refine zb ⟨rfl, _, _, ⟨rfl, rfl⟩, .b hg68⟩
   rintro _ _ ⟨rfl, rfl⟩;refine rnN 1 ?_;refine nkN hK ?_;refine zn (b := ((!r30) || ((vaE l15 y21.fTag).getD false))) rfl (fun hc32 => ?_) (fun hc32 => ?_)
   · rw [if_pos hc32] at h;refine rgN [6] ?_;apply yB;cases h;simp only [ZC, yQ, xb, xR, exists_eq_left', go_sem, qd];refine ⟨by decide, by simp, ?_, ?_⟩
     · first | rfl | (simp only [go_sem, qc, qf, qa, qd, qq, qC, reduceIte, reduceCtorEq, push_cast, if_true, qy, qm, qG, qw, qD, qK, qR, qN, qL, qH, qx, zB] <;> rfl)
     first | rfl | (simp only [go_sem, push_cast, qw] <;> rfl)
   rw [xN hc32] at h
   refine rc [3, 7, 10, 12, 51, 52, 53, 74] fun K hK => ?_
   obtain ⟨r33, hr33, h⟩ := zS h;refine rnN 2 ?_;refine clN rfl rfl rfl (xU.ev a0 y21 r33 hr33 _) ?_;refine rnN 2 ?_;refine nkN hK ?_;refine zn (b := (!r33)) rfl (fun hc34 => ?_) (fun hc34 => ?_)
   · rw [if_pos hc34] at h;refine rgN [6] ?_;apply yB;cases h;simp only [ZC, yQ, xb, xR, exists_eq_left', go_sem, qd];refine ⟨by decide, by simp, ?_, ?_⟩
     · first | rfl | (simp only [go_sem, qc, qf, qa, qd, qq, qC, reduceIte, reduceCtorEq, push_cast, if_true, qy, qm, qG, qw, qD, qK, qR, qN, qL, qH, qx, zB] <;> rfl)
     first | rfl | (simp only [go_sem, push_cast, qw] <;> rfl)
   rw [xN hc34] at h;apply zd;apply hZ27
   have f35 := fun (o0 : ZR) (o1 : ZR) (x : Store) => va9 (T := tab) (t := 161) (ek := (AV.int .i64)) (ev := AV.bool) (KeyE.int rfl rfl rfl rfl) rfl rfl l15 y21.fTag true (o0 :: o1 :: .map (wu (AV.int .i64) AV.bool l15) :: x) 2 rfl
   refine rgE tok [3, 7, 10, 51, 52, 53] fun K hK => ?_
   simp only [go_sem, qc, qa, qd, f35];apply hK
   apply hZ24
   refine rgE tok [3, 7, 10, 51, 52, 53] fun K hK => ?_
   simp only [go_sem, qc, qa, hw21];apply hK
   exact ⟨_, _, _, qr q21.length, ⟨p21 ++ [y21], q21, x17 + 1, vaN l15 y21.fTag true, r28.2, rfl, rfl, rfl, hE'21, hi'21, h⟩, (.t [0, 1, 2, 3] false)⟩
 obtain ⟨hz12, hw12, hx12, hE'12, hi'12⟩ := zW hE12 hi12 hb12;simp only [zG.l12] at h
 refine rg tok [3, 5, 7, 32, 33, 34, 35] fun K hK => ?_
 simp only [go_sem, qc, qa, hz12];apply hK
 refine za fun Z36 hZ36 => ?_
 refine zp rfl ?_;apply zd;apply hZ36
 refine za fun Z37 hZ37 => ?_
 apply ze;have f38 := E45.idxS hx12;have f39 := E45.fldS0 (f := 3) rfl rfl hx12
 refine rg tok [3, 5, 7, 9, 32, 33, 34] fun K hK => ?_
 simp only [go_sem, qc, qa, encI, f38, f39];apply hK
 refine za fun Z40 hZ40 => ?_
 refine rc [3, 5, 7, 9, 32, 33, 34, 45] fun K hK => ?_
 obtain ⟨r41, hr41, h⟩ := zS h;refine rnN 1 ?_;refine clN rfl rfl rfl (wP.ev y12 r41 hr41 _) ?_;refine rnN 2 ?_;refine zh 4 (fun L τ => L = [(3, .op 1 0 0), (5, .op 2 0 0), (7, .mp 3), (9, .int .i64 y12), (32, .ds true (qe encI a2.fReserved) (qb a2.fReserved) false), (33, .int .i64 (qb a2.fReserved : Int)), (34, .int .i64 x9), (45, .bool ((!r41) || ((vaE l8 y12).getD false)))] ∧ τ = [.map (wu AV.str AV.bool r2.2), .cells 0 (encGSchema a0), .cells 0 (encGMessage a2), .map (wu (AV.int .i64) AV.bool l8)]) ?_ ?_
 · refine zI (b := (!r41)) 41 rfl (fun hg41 => ?_) (fun hg41 => ?_)
   · refine zj tok 4 ?_;simp only [go_sem, qc, qa, if_false, if_true];refine zb ⟨rfl, _, _, ⟨rfl, rfl⟩, .b hg41⟩
   have f42 := fun (o0 : ZR) (o1 : ZR) (o2 : ZR) (x : Store) => vbe (T := tab) (t := 161) (ek := (AV.int .i64)) (ev := AV.bool) (z := false) (KeyE.int rfl rfl rfl rfl) rfl rfl rfl rfl l8 y12 false (o0 :: o1 :: o2 :: .map (wu (AV.int .i64) AV.bool l8) :: x) 3 rfl
   refine zj tok 4 ?_;simp only [go_sem, qc, qa, XJ, q3, if_false, if_true, f42];refine zb ⟨rfl, _, _, ⟨rfl, rfl⟩, .b hg41⟩
 rintro _ _ ⟨rfl, rfl⟩;refine nkN hK ?_;refine zn (b := ((!r41) || ((vaE l8 y12).getD false))) rfl (fun hc43 => ?_) (fun hc43 => ?_)
 · rw [if_pos hc43] at h;refine rgN [6] ?_;apply yB;cases h;simp only [ZC, yQ, xb, xR, exists_eq_left', go_sem, qd];refine ⟨by decide, by simp, ?_, ?_⟩
   · first | rfl | (simp only [go_sem, qc, qf, qa, qd, qq, qC, reduceIte, reduceCtorEq, push_cast, if_true, qy, qm, qG, qw, qD, qK, qR, qN, qL, qH, qx, zB] <;> rfl)
   first | rfl | (simp only [go_sem, push_cast, qw] <;> rfl)
 rw [xN hc43] at h;apply zd;apply hZ40
 have f44 := fun (o0 : ZR) (o1 : ZR) (o2 : ZR) (x : Store) => va9 (T := tab) (t := 161) (ek := (AV.int .i64)) (ev := AV.bool) (KeyE.int rfl rfl rfl rfl) rfl rfl l8 y12 true (o0 :: o1 :: o2 :: .map (wu (AV.int .i64) AV.bool l8) :: x) 3 rfl
 refine rgE tok [3, 5, 7, 32, 33, 34] fun K hK => ?_
 simp only [go_sem, qc, qa, f44];apply hK
 apply hZ37
 refine rgE tok [3, 5, 7, 32, 33, 34] fun K hK => ?_
 simp only [go_sem, qc, qa, hw12];apply hK
 exact ⟨_, _, _, qr q12.length, ⟨p12 ++ [y12], q12, x9 + 1, vaN l8 y12 true, rfl, rfl, rfl, hE'12, hi'12, h⟩, .s⟩
def yr.l23 (r2 : Bool × List (List UInt8 × Bool)) : List GNamed → Int → List (List UInt8 × Bool) → List (Int × Bool) → Option (Int × List (List UInt8 × Bool))
 | [], x19, l17, l18 => some (0, r2.2)
 | y23 :: q23, x19, l17, l18 => (yi l17 y23.fName).bind fun r30 => (if (!r30.1) = true then some (6, r2.2) else (if (((decide (y23.fN < 0)) || (decide (2147483647 < y23.fN))) || ((vaE l18 y23.fN).getD false)) = true then some (11, r2.2) else ((yr.l23 r2 q23) (x19 + 1) r30.2 (vaN l18 y23.fN true))))
def yr.l12 (a1 : GEnumeration) (r2 : Bool × List (List UInt8 × Bool)) : List GNamed → Int → Bool → Option (Int × List (List UInt8 × Bool))
 | [], x9, x8 => (if (!x8) = true then some (12, r2.2) else (yr.l23 r2 a1.fValues 0 [] []))
 | y12 :: q12, x9, x8 => ((yr.l12 a1 r2 q12) (x9 + 1) (x8 || (decide (y12.fN = 0))))
def yr (a0 : List (List UInt8 × Bool)) (a1 : GEnumeration) : Option (Int × List (List UInt8 × Bool)) :=
 (yi a0 a1.fName).bind fun r2 => (if (!r2.1) = true then some (6, r2.2) else (if 16 < (qb a1.fValues : Int) then some (4, r2.2) else (yr.l12 a1 r2 a1.fValues 0 false)))
theorem yr.ok (a0 : List (List UInt8 × Bool)) (a1 : GEnumeration) (r : Int × List (List UInt8 × Bool)) (h : yr a0 a1 = some r) : ACalls qh 62 [.mp 0, .agg (encGEnumeration a1)] [.map (wu AV.str AV.bool a0)] (fun r' σ' => r' = .int .i64 r.1 ∧ σ' = [.map (wu AV.str AV.bool r.2)]) := by
 refine YU [0] (rs := [.tmp 4]) tok Tryz.func62 rfl Tryz.ntmps62 rfl Tryz.call62 (by simp) rfl ?_;refine zl [(0, .mp 0), (1, .agg (encGEnumeration a1))] ⟨rfl, rfl, trivial⟩ ?_;unfold yr at h
 refine rg tok [0, 3] fun K hK => ?_
 simp only [go_sem, qc, qa, qd, reduceCtorEq, encGEnumeration];apply hK
 refine za fun Z1 hZ1 => ?_
 apply ze
 refine rc [3, 12] fun K hK => ?_
 obtain ⟨r2, hr2, h⟩ := bind_some h;refine rnN 3 ?_;refine clN rfl rfl rfl (@id (ACalls qh 63 [.mp 0, .str a1.fName] [.map (wu AV.str AV.bool a0), .cells 0 (encGEnumeration a1)] (fun r' σ' => r' = .bool r2.1 ∧ σ' = [.map (wu AV.str AV.bool r2.2), .cells 0 (encGEnumeration a1)])) ((yi.ok a0 a1.fName r2 hr2).i [0])) ?_;refine rnN 2 ?_;refine nkN hK ?_;refine zn (b := (!r2.1)) rfl (fun hc3 => ?_) (fun hc3 => ?_)
 · rw [if_pos hc3] at h;refine rgN [4] ?_;apply yB;cases h;simp only [ZC, yQ, xb, xR, exists_eq_left', go_sem, qd];refine ⟨by decide, by simp, ?_, ?_⟩
   · first | rfl | (simp only [go_sem, qc, qf, qa, qd, qq, qC, reduceIte, reduceCtorEq, push_cast, if_true, qy, qm, qG, qw, qD, qK, qR, qN, qL, qH, qx, zB] <;> rfl)
   first | rfl | (simp only [go_sem, push_cast, qw] <;> rfl)
 rw [xN hc3] at h;refine rgN [3, 18] ?_;refine zx rfl (fun hc4 => ?_) (fun hc4 => ?_)
 · rw [if_pos hc4] at h;have t5 := eq_true hc4
   refine rg tok [4] fun K hK => ?_
   simp only [go_sem, qc, qa, t5];apply hK
   apply yB;cases h;simp only [ZC, yQ, xb, xR, exists_eq_left', go_sem, qd];refine ⟨by decide, by simp, ?_, ?_⟩
   · first | rfl | (simp only [go_sem, qc, qf, qa, qd, qq, qC, reduceIte, reduceCtorEq, push_cast, if_true, qy, qm, qG, qw, qD, qK, qR, qN, qL, qH, qx, zB] <;> rfl)
   first | rfl | (simp only [go_sem, push_cast, qw] <;> rfl)
 rw [if_neg hc4] at h;have t6 := eq_false hc4;apply zd;apply hZ1
 refine rg tok [3, 5] fun K hK => ?_
 simp only [go_sem, qc, qa, t6];apply hK
 refine za fun Z7 hZ7 => ?_
 refine rgN [3, 5, 24, 25, 26] ?_;apply ze
 refine yP 24 fun hb12 => ?_
 replace hb12 : qb a1.fValues ≤ 9223372036854775807 := hb12.1;refine zq (fun m L τ => ∃ (p12 q12 : List GNamed) (x9 : Int) (x8 : Bool), m = qb q12 ∧ L = [(3, .op 1 0 0), (5, .bool x8), (24, .ds true (qe encGNamed a1.fValues) (qb a1.fValues) false), (25, .int .i64 (qb a1.fValues : Int)), (26, .int .i64 x9)] ∧ τ = [.map (wu AV.str AV.bool r2.2), .cells 0 (encGEnumeration a1)] ∧ a1.fValues = p12 ++ q12 ∧ x9 = (qb p12 : Int) ∧ yr.l12 a1 r2 q12 x9 x8 = some r) _ ⟨[], a1.fValues, 0, false, rfl, rfl, rfl, rfl, rfl, h⟩ .s ?_;rintro m L τ ⟨p12, q12, x9, x8, rfl, rfl, rfl, hE12, hi12, h⟩
 rcases q12 with _ | ⟨y12, q12⟩
 · have hz12 := yl hE12 hi12;simp only [yr.l12] at h
   refine rg tok [3, 5, 24, 25, 26, 27] fun K hK => ?_
   simp only [go_sem, qc, qa, hz12];apply hK
   refine za fun Z13 hZ13 => ?_
   refine zm rfl ?_;apply zv;apply hZ7
   refine za fun Z14 hZ14 => ?_
   refine rgN [3, 38] ?_;refine zn (b := (!x8)) rfl (fun hc15 => ?_) (fun hc15 => ?_)
   · rw [if_pos hc15] at h;refine rgN [4] ?_;apply yB;cases h;simp only [ZC, yQ, xb, xR, exists_eq_left', go_sem, qd];refine ⟨by decide, by simp, ?_, ?_⟩
     · first | rfl | (simp only [go_sem, qc, qf, qa, qd, qq, qC, reduceIte, reduceCtorEq, push_cast, if_true, qy, qm, qG, qw, qD, qK, qR, qN, qL, qH, qx, zB] <;> rfl)
     first | rfl | (simp only [go_sem, push_cast, qw] <;> rfl)
   rw [xN hc15] at h;apply zd;apply hZ14;refine rgN [3, 8, 9] ?_;refine zU (L := [(3, .op 1 0 0), (8, .mp 2), (9, .mp 3)]) (τ := [.map (wu AV.str AV.bool r2.2), .cells 0 (encGEnumeration a1), .map (wu AV.str AV.bool []), .map (wu (AV.int .i64) AV.bool [])]) .s ?_
   refine za fun Z16 hZ16 => ?_
   refine rgN [8, 9, 42, 43, 44] ?_;apply ze
   refine yP 42 fun hb23 => ?_
   replace hb23 : qb a1.fValues ≤ 9223372036854775807 := hb23.1;refine zq (fun m L τ => ∃ (p23 q23 : List GNamed) (x19 : Int) (l17 : List (List UInt8 × Bool)) (l18 : List (Int × Bool)), m = qb q23 ∧ L = [(8, .mp 1), (9, .mp 2), (42, .ds true (qe encGNamed a1.fValues) (qb a1.fValues) false), (43, .int .i64 (qb a1.fValues : Int)), (44, .int .i64 x19)] ∧ τ = [.map (wu AV.str AV.bool r2.2), .map (wu AV.str AV.bool l17), .map (wu (AV.int .i64) AV.bool l18)] ∧ a1.fValues = p23 ++ q23 ∧ x19 = (qb p23 : Int) ∧ yr.l23 r2 q23 x19 l17 l18 = some r) _ ⟨[], a1.fValues, 0, [], [], rfl, rfl, rfl, rfl, rfl, h⟩ (.t [0, 2, 3] false) ?_;rintro m L τ ⟨p23, q23, x19, l17, l18, rfl, rfl, rfl, hE23, hi23, h⟩
   rcases q23 with _ | ⟨y23, q23⟩
   · have hz23 := yl hE23 hi23;simp only [yr.l23] at h
     refine rg tok [8, 9, 42, 43, 44, 45] fun K hK => ?_
     simp only [go_sem, qc, qa, hz23];apply hK
     refine za fun Z24 hZ24 => ?_
     refine zm rfl ?_;apply zv;apply hZ16;refine rgN [4] ?_;apply yB;cases h;simp only [ZC, yQ, xb, xR, exists_eq_left', go_sem, qd];refine ⟨by decide, by simp, ?_, ?_⟩
     · first | rfl | (simp only [go_sem, qc, qf, qa, qd, qq, qC, reduceIte, reduceCtorEq, push_cast, if_true, qy, qm, qG, qw, qD, qK, qR, qN, qL, qH, qx, zB] <;> rfl)
     first | rfl | (simp only [go_sem, push_cast, qw] <;> rfl)
   obtain ⟨hz23, hw23, hx23, hE'23, hi'23⟩ := zW hE23 hi23 hb23;simp only [yr.l23] at h
   refine rg tok [8, 9, 42, 43, 44, 45] fun K hK => ?_
   simp only [go_sem, qc, qa, hz23];apply hK
   refine za fun Z25 hZ25 => ?_
   refine zp rfl ?_;apply zd;apply hZ25
   refine za fun Z26 hZ26 => ?_
   apply ze;have f27 := E82.idxS hx23;have f28 := E82.loadS rfl rfl hx23
   refine rg tok [8, 9, 11, 42, 43, 44] fun K hK => ?_
   simp only [go_sem, qc, qf, qa, qd, encGNamed, f27, f28];apply hK
   refine za fun Z29 hZ29 => ?_
   apply ze
   refine rc [8, 9, 11, 42, 43, 44, 48] fun K hK => ?_
   obtain ⟨r30, hr30, h⟩ := bind_some h;refine rnN 3 ?_;refine clN rfl rfl rfl (@id (ACalls qh 63 [.mp 1, .str y23.fName] [.map (wu AV.str AV.bool r2.2), .map (wu AV.str AV.bool l17), .map (wu (AV.int .i64) AV.bool l18), .cells 0 [.str y23.fName, .int .i64 y23.fN]] (fun r' σ' => r' = .bool r30.1 ∧ σ' = [.map (wu AV.str AV.bool r2.2), .map (wu AV.str AV.bool r30.2), .map (wu (AV.int .i64) AV.bool l18), .cells 0 [.str y23.fName, .int .i64 y23.fN]])) ((yi.ok l17 y23.fName r30 hr30).i [1])) ?_;refine rnN 2 ?_;refine nkN hK ?_;refine zn (b := (!r30.1)) rfl (fun hc31 => ?_) (fun hc31 => ?_)
   · rw [if_pos hc31] at h;refine rgN [4] ?_;apply yB;cases h;simp only [ZC, yQ, xb, xR, exists_eq_left', go_sem, qd];refine ⟨by decide, by simp, ?_, ?_⟩
     · first | rfl | (simp only [go_sem, qc, qf, qa, qd, qq, qC, reduceIte, reduceCtorEq, push_cast, if_true, qy, qm, qG, qw, qD, qK, qR, qN, qL, qH, qx, zB] <;> rfl)
     first | rfl | (simp only [go_sem, push_cast, qw] <;> rfl)
   rw [xN hc31] at h
   refine rc [8, 9, 11, 42, 43, 44, 54] fun K hK => ?_
   refine rnN 4 ?_;refine zh 4 (fun L τ => L = [(8, .mp 1), (9, .mp 2), (11, .op 3 0 0), (42, .ds true (qe encGNamed a1.fValues) (qb a1.fValues) false), (43, .int .i64 (qb a1.fValues : Int)), (44, .int .i64 x19), (62, .bool ((decide (y23.fN < 0)) || (decide (2147483647 < y23.fN))))] ∧ τ = [.map (wu AV.str AV.bool r2.2), .map (wu AV.str AV.bool r30.2), .map (wu (AV.int .i64) AV.bool l18), .cells 0 [.str y23.fName, .int .i64 y23.fN]]) ?_ ?_
   · refine yA 58 rfl (fun hg58 => ?_) (fun hg58 => ?_)
     · have t32 := eq_true hg58;refine rnN 4 ?_;refine zb ⟨rfl, _, _, ⟨rfl, rfl⟩, .p t32⟩
     have t33 := eq_false hg58;refine rnN 4 ?_;refine zb ⟨rfl, _, _, ⟨rfl, rfl⟩, .p t33⟩
   rintro _ _ ⟨rfl, rfl⟩;refine rnN 1 ?_;refine zh 5 (fun L τ => L = [(8, .mp 1), (9, .mp 2), (11, .op 3 0 0), (42, .ds true (qe encGNamed a1.fValues) (qb a1.fValues) false), (43, .int .i64 (qb a1.fValues : Int)), (44, .int .i64 x19), (68, .bool (((decide (y23.fN < 0)) || (decide (2147483647 < y23.fN))) || ((vaE l18 y23.fN).getD false)))] ∧ τ = [.map (wu AV.str AV.bool r2.2), .map (wu AV.str AV.bool r30.2), .map (wu (AV.int .i64) AV.bool l18), .cells 0 [.str y23.fName, .int .i64 y23.fN]]) ?_ ?_
   · refine zI (b := ((decide (y23.fN < 0)) || (decide (2147483647 < y23.fN)))) 63 rfl (fun hg63 => ?_) (fun hg63 => ?_)
     · refine zj tok 5 ?_;simp only [go_sem, qc, qa, if_false, if_true];refine zb ⟨rfl, _, _, ⟨rfl, rfl⟩, .b hg63⟩
     have f34 := fun (o0 : ZR) (o1 : ZR) (x : Store) => vbe (T := tab) (t := 161) (ek := (AV.int .i64)) (ev := AV.bool) (z := false) (KeyE.int rfl rfl rfl rfl) rfl rfl rfl rfl l18 y23.fN false (o0 :: o1 :: .map (wu (AV.int .i64) AV.bool l18) :: x) 2 rfl
     refine zj tok 5 ?_;simp only [go_sem, qc, qa, qd, XJ, q3, if_false, if_true, f34];refine zb ⟨rfl, _, _, ⟨rfl, rfl⟩, .b hg63⟩
   rintro _ _ ⟨rfl, rfl⟩;refine rnN 1 ?_;refine nkN hK ?_;refine zn (b := (((decide (y23.fN < 0)) || (decide (2147483647 < y23.fN))) || ((vaE l18 y23.fN).getD false))) rfl (fun hc35 => ?_) (fun hc35 => ?_)
   · rw [if_pos hc35] at h;refine rgN [4] ?_;apply yB;cases h;simp only [ZC, yQ, xb, xR, exists_eq_left', go_sem, qd];refine ⟨by decide, by simp, ?_, ?_⟩
     · first | rfl | (simp only [go_sem, qc, qf, qa, qd, qq, qC, reduceIte, reduceCtorEq, push_cast, if_true, qy, qm, qG, qw, qD, qK, qR, qN, qL, qH, qx, zB] <;> rfl)
     first | rfl | (simp only [go_sem, push_cast, qw] <;> rfl)
   rw [xN hc35] at h;apply zd;apply hZ29
   have f36 := fun (o0 : ZR) (o1 : ZR) (x : Store) => va9 (T := tab) (t := 161) (ek := (AV.int .i64)) (ev := AV.bool) (KeyE.int rfl rfl rfl rfl) rfl rfl l18 y23.fN true (o0 :: o1 :: .map (wu (AV.int .i64) AV.bool l18) :: x) 2 rfl
   refine rgE tok [8, 9, 42, 43, 44] fun K hK => ?_
   simp only [go_sem, qc, qa, qd, f36];apply hK
   apply hZ26
   refine rgE tok [8, 9, 42, 43, 44] fun K hK => ?_
   simp only [go_sem, qc, qa, hw23];apply hK
   exact ⟨_, _, _, qr q23.length, ⟨p23 ++ [y23], q23, x19 + 1, r30.2, vaN l18 y23.fN true, rfl, rfl, rfl, hE'23, hi'23, h⟩, (.t [0, 1, 2] false)⟩
 obtain ⟨hz12, hw12, hx12, hE'12, hi'12⟩ := zW hE12 hi12 hb12;simp only [yr.l12] at h
 refine rg tok [3, 5, 24, 25, 26, 27] fun K hK => ?_
 simp only [go_sem, qc, qa, hz12];apply hK
 refine za fun Z37 hZ37 => ?_
 refine zp rfl ?_;apply zd;apply hZ37
 refine za fun Z38 hZ38 => ?_
 apply ze;have f39 := E82.idxS hx12;have f40 := E82.loadS rfl rfl hx12
 refine rg tok [3, 5, 7, 24, 25, 26] fun K hK => ?_
 simp only [go_sem, qc, qf, qa, qd, encGNamed, f39, f40];apply hK
 refine rcE [3, 5, 24, 25, 26] fun K hK => ?_
 refine rnN 2 ?_;refine zh 4 (fun L τ => L = [(3, .op 1 0 0), (5, .bool x8), (24, .ds true (qe encGNamed a1.fValues) (qb a1.fValues) false), (25, .int .i64 (qb a1.fValues : Int)), (26, .int .i64 x9), (35, .bool (x8 || (decide (y12.fN = 0))))] ∧ τ = [.map (wu AV.str AV.bool r2.2), .cells 0 (encGEnumeration a1), .cells 0 [.str y12.fName, .int .i64 y12.fN]]) ?_ ?_
 · refine zI (b := x8) 31 rfl (fun hg31 => ?_) (fun hg31 => ?_)
   · refine rnN 4 ?_;refine zb ⟨rfl, _, _, ⟨rfl, rfl⟩, .b hg31⟩
   refine rnN 4 ?_;refine zb ⟨rfl, _, _, ⟨rfl, rfl⟩, .b hg31⟩
 rintro _ _ ⟨rfl, rfl⟩;refine rnN 1 ?_;refine nkN hK ?_;apply hZ38
 refine rgE tok [3, 5, 24, 25, 26] fun K hK => ?_
 simp only [go_sem, qc, qa, hw12];apply hK
 exact ⟨_, _, _, qr q12.length, ⟨p12 ++ [y12], q12, x9 + 1, (x8 || (decide (y12.fN = 0))), rfl, rfl, rfl, hE'12, hi'12, h⟩, (.t [0, 1] false)⟩
def zw.l29 (a0 : GSchema) : List GMethod → Int → List (List UInt8 × Bool) → Option Int
 | [], x26, l25 => some 0
 | y29 :: q29, x26, l25 => bnd (zD a0 y29.fIn) fun r35 => bnd (zD a0 y29.fOut) fun r36 => (yi l25 y29.fName).bind fun r37 => (if (!r37.1) = true then some 6 else (if ((!r35.2) || (!r36.2)) = true then some 8 else ((zw.l29 a0 q29) (x26 + 1) r37.2)))
def zw.l22 (a0 : GSchema) : List GEnumeration → Int → List (List UInt8 × Bool) → Option Int
 | [], x19, l18 => (zw.l29 a0 a0.fMethods 0 [])
 | y22 :: q22, x19, l18 => (yr l18 y22).bind fun r44 => (if r44.1 = 0 then ((zw.l22 a0 q22) (x19 + 1) r44.2) else some r44.1)
def zw.l15 (a0 : GSchema) : List GMessage → Int → List (List UInt8 × Bool) → Option Int
 | [], x12, l11 => (zw.l22 a0 a0.fEnums 0 l11)
 | y15 :: q15, x12, l11 => (zG a0 l11 y15).bind fun r52 => (if r52.1 = 0 then ((zw.l15 a0 q15) (x12 + 1) r52.2) else some r52.1)
def zw (a0 : GSchema) : Option Int :=
 (yD a0.fName).bind fun r2 => (if (!r2) = true then some 6 else (if (qb a0.fMessages : Int) = 0 then some 12 else (if (((decide (10 < (qb a0.fMessages : Int))) || (decide (6 < (qb a0.fEnums : Int)))) || (decide (6 < (qb a0.fMethods : Int)))) = true then some 4 else (zw.l15 a0 a0.fMessages 0 []))))
theorem zw.ok (a0 : GSchema) (r : Int) (h : zw a0 = some r) : ACalls qh 39 [.agg (encGSchema a0)] [] (fun r' _ => r' = .int .i64 r) := by
 refine zf (rs := [.tmp 2]) tok Tryz.func39 rfl Tryz.ntmps39 rfl Tryz.call39 (by simp) ?_;refine zl [(0, .agg (encGSchema a0))] ⟨rfl, trivial⟩ ?_;unfold zw at h
 refine rg tok [1] fun K hK => ?_
 simp only [go_sem, qc, qa, qd, reduceCtorEq, encGSchema];apply hK
 refine za fun Z1 hZ1 => ?_
 apply ze
 refine rc [1, 17] fun K hK => ?_
 obtain ⟨r2, hr2, h⟩ := bind_some h;refine rnN 2 ?_;refine clN rfl rfl rfl (yD.ev a0.fName r2 hr2 _) ?_;refine rnN 2 ?_;refine nkN hK ?_;refine zn (b := (!r2)) rfl (fun hc3 => ?_) (fun hc3 => ?_)
 · rw [if_pos hc3] at h;refine rgN [2] ?_;cases h;exact rtA
 rw [xN hc3] at h;refine rgN [1, 22] ?_;refine zx rfl (fun hc4 => ?_) (fun hc4 => ?_)
 · rw [if_pos hc4] at h;have t5 := eq_true hc4
   refine rg tok [2] fun K hK => ?_
   simp only [go_sem, qc, qa, t5];apply hK
   cases h;exact rtA
 rw [if_neg hc4] at h;have t6 := eq_false hc4
 refine rc [1, 27] fun K hK => ?_
 refine zj tok 5 ?_;simp only [go_sem, qc, qa, qd, t6];refine zh 5 (fun L τ => L = [(1, .op 0 0 0), (37, .bool ((decide (10 < (qb a0.fMessages : Int))) || (decide (6 < (qb a0.fEnums : Int)))))] ∧ τ = [.cells 0 (encGSchema a0)]) ?_ ?_
 · refine yA 32 rfl (fun hg32 => ?_) (fun hg32 => ?_)
   · have t7 := eq_true hg32;refine rnN 5 ?_;refine zb ⟨rfl, _, _, ⟨rfl, rfl⟩, .p t7⟩
   have t8 := eq_false hg32;refine rnN 5 ?_;refine zb ⟨rfl, _, _, ⟨rfl, rfl⟩, .p t8⟩
 rintro _ _ ⟨rfl, rfl⟩;refine rnN 1 ?_;refine zh 5 (fun L τ => L = [(1, .op 0 0 0), (43, .bool (((decide (10 < (qb a0.fMessages : Int))) || (decide (6 < (qb a0.fEnums : Int)))) || (decide (6 < (qb a0.fMethods : Int)))))] ∧ τ = [.cells 0 (encGSchema a0)]) ?_ ?_
 · refine zI (b := ((decide (10 < (qb a0.fMessages : Int))) || (decide (6 < (qb a0.fEnums : Int))))) 38 rfl (fun hg38 => ?_) (fun hg38 => ?_)
   · refine rnN 5 ?_;refine zb ⟨rfl, _, _, ⟨rfl, rfl⟩, .b hg38⟩
   refine rnN 5 ?_;refine zb ⟨rfl, _, _, ⟨rfl, rfl⟩, .b hg38⟩
 rintro _ _ ⟨rfl, rfl⟩;refine rnN 1 ?_;refine nkN hK ?_;refine zn (b := (((decide (10 < (qb a0.fMessages : Int))) || (decide (6 < (qb a0.fEnums : Int)))) || (decide (6 < (qb a0.fMethods : Int))))) rfl (fun hc9 => ?_) (fun hc9 => ?_)
 · rw [if_pos hc9] at h;refine rgN [2] ?_;cases h;exact rtA
 rw [xN hc9] at h;apply zd;apply hZ1;refine rgN [1, 3] ?_;refine zU (L := [(1, .op 0 0 0), (3, .mp 1)]) (τ := [.cells 0 (encGSchema a0), .map (wu AV.str AV.bool [])]) .s ?_
 refine za fun Z10 hZ10 => ?_
 refine rgN [1, 3, 46, 47, 48] ?_;apply ze
 refine yP 46 fun hb15 => ?_
 replace hb15 : qb a0.fMessages ≤ 9223372036854775807 := hb15.1;refine zq (fun m L τ => ∃ (p15 q15 : List GMessage) (x12 : Int) (l11 : List (List UInt8 × Bool)), m = qb q15 ∧ L = [(1, .op 0 0 0), (3, .mp 1), (46, .ds true (qe encGMessage a0.fMessages) (qb a0.fMessages) false), (47, .int .i64 (qb a0.fMessages : Int)), (48, .int .i64 x12)] ∧ τ = [.cells 0 (encGSchema a0), .map (wu AV.str AV.bool l11)] ∧ a0.fMessages = p15 ++ q15 ∧ x12 = (qb p15 : Int) ∧ zw.l15 a0 q15 x12 l11 = some r) _ ⟨[], a0.fMessages, 0, [], rfl, rfl, rfl, rfl, rfl, h⟩ .s ?_;rintro m L τ ⟨p15, q15, x12, l11, rfl, rfl, rfl, hE15, hi15, h⟩
 rcases q15 with _ | ⟨y15, q15⟩
 · have hz15 := yl hE15 hi15;simp only [zw.l15] at h
   refine rg tok [1, 3, 46, 47, 48, 49] fun K hK => ?_
   simp only [go_sem, qc, qa, hz15];apply hK
   refine za fun Z16 hZ16 => ?_
   refine zm rfl ?_;apply zv;apply hZ10
   refine za fun Z17 hZ17 => ?_
   refine rgN [1, 3, 61, 62, 63] ?_;apply ze
   refine yP 61 fun hb22 => ?_
   replace hb22 : qb a0.fEnums ≤ 9223372036854775807 := hb22.1;refine zq (fun m L τ => ∃ (p22 q22 : List GEnumeration) (x19 : Int) (l18 : List (List UInt8 × Bool)), m = qb q22 ∧ L = [(1, .op 0 0 0), (3, .mp 1), (61, .ds true (qe encGEnumeration a0.fEnums) (qb a0.fEnums) false), (62, .int .i64 (qb a0.fEnums : Int)), (63, .int .i64 x19)] ∧ τ = [.cells 0 (encGSchema a0), .map (wu AV.str AV.bool l18)] ∧ a0.fEnums = p22 ++ q22 ∧ x19 = (qb p22 : Int) ∧ zw.l22 a0 q22 x19 l18 = some r) _ ⟨[], a0.fEnums, 0, l11, rfl, rfl, rfl, rfl, rfl, h⟩ .s ?_;rintro m L τ ⟨p22, q22, x19, l18, rfl, rfl, rfl, hE22, hi22, h⟩
   rcases q22 with _ | ⟨y22, q22⟩
   · have hz22 := yl hE22 hi22;simp only [zw.l22] at h
     refine rg tok [1, 3, 61, 62, 63, 64] fun K hK => ?_
     simp only [go_sem, qc, qa, hz22];apply hK
     refine za fun Z23 hZ23 => ?_
     refine zm rfl ?_;apply zv;apply hZ17;refine rgN [1, 10] ?_;refine zU (L := [(1, .op 0 0 0), (10, .mp 2)]) (τ := [.cells 0 (encGSchema a0), .map (wu AV.str AV.bool l18), .map (wu AV.str AV.bool [])]) .s ?_
     refine za fun Z24 hZ24 => ?_
     refine rgN [1, 10, 76, 77, 78] ?_;apply ze
     refine yP 76 fun hb29 => ?_
     replace hb29 : qb a0.fMethods ≤ 9223372036854775807 := hb29.1;refine zq (fun m L τ => ∃ (p29 q29 : List GMethod) (x26 : Int) (l25 : List (List UInt8 × Bool)), m = qb q29 ∧ L = [(1, .op 0 0 0), (10, .mp 1), (76, .ds true (qe encGMethod a0.fMethods) (qb a0.fMethods) false), (77, .int .i64 (qb a0.fMethods : Int)), (78, .int .i64 x26)] ∧ τ = [.cells 0 (encGSchema a0), .map (wu AV.str AV.bool l25)] ∧ a0.fMethods = p29 ++ q29 ∧ x26 = (qb p29 : Int) ∧ zw.l29 a0 q29 x26 l25 = some r) _ ⟨[], a0.fMethods, 0, [], rfl, rfl, rfl, rfl, rfl, h⟩ (.t [0, 2] false) ?_;rintro m L τ ⟨p29, q29, x26, l25, rfl, rfl, rfl, hE29, hi29, h⟩
     rcases q29 with _ | ⟨y29, q29⟩
     · have hz29 := yl hE29 hi29;simp only [zw.l29] at h
       refine rg tok [1, 10, 76, 77, 78, 79] fun K hK => ?_
       simp only [go_sem, qc, qa, hz29];apply hK
       refine za fun Z30 hZ30 => ?_
       refine zm rfl ?_;apply zv;apply hZ24;refine rgN [2] ?_;cases h;exact rtA
     obtain ⟨hz29, hw29, hx29, hE'29, hi'29⟩ := zW hE29 hi29 hb29;simp only [zw.l29] at h
     refine rg tok [1, 10, 76, 77, 78, 79] fun K hK => ?_
     simp only [go_sem, qc, qa, hz29];apply hK
     refine za fun Z31 hZ31 => ?_
     refine zp rfl ?_;apply zd;apply hZ31
     refine za fun Z32 hZ32 => ?_
     apply ze;have f33 := E24.idxS hx29;have f34 := E24.loadS rfl rfl hx29
     refine rg tok [1, 10, 12, 76, 77, 78] fun K hK => ?_
     simp only [go_sem, qc, qf, qa, qd, encGMethod, f33, f34];apply hK
     refine rc [1, 10, 12, 14, 76, 77, 78] fun K hK => ?_
     obtain ⟨r35, hr35, h⟩ := zS h;refine rnN 3 ?_;refine clN rfl rfl rfl (zD.ev a0 y29.fIn r35 hr35 _) ?_;refine zj tok 6 ?_;simp only [go_sem, qc, qf, qa, qd, encGMessage];refine nkN hK ?_
     refine rc [1, 10, 12, 14, 16, 76, 77, 78] fun K hK => ?_
     obtain ⟨r36, hr36, h⟩ := zS h;refine rnN 3 ?_;refine clN rfl rfl rfl (zD.ev a0 y29.fOut r36 hr36 _) ?_;refine zj tok 6 ?_;simp only [go_sem, qc, qf, qa, qd, encGMessage];refine nkN hK ?_;apply ze
     refine rc [1, 10, 14, 16, 76, 77, 78, 96] fun K hK => ?_
     obtain ⟨r37, hr37, h⟩ := bind_some h;refine rnN 3 ?_;refine clN rfl rfl rfl (@id (ACalls qh 63 [.mp 1, .str y29.fName] [.cells 0 (encGSchema a0), .map (wu AV.str AV.bool l25), .cells 0 [.str y29.fName, .str y29.fIn, .str y29.fOut], .cells 0 (encGMessage r35.1), .cells 0 (encGMessage r36.1)] (fun r' σ' => r' = .bool r37.1 ∧ σ' = [.cells 0 (encGSchema a0), .map (wu AV.str AV.bool r37.2), .cells 0 [.str y29.fName, .str y29.fIn, .str y29.fOut], .cells 0 (encGMessage r35.1), .cells 0 (encGMessage r36.1)])) ((yi.ok l25 y29.fName r37 hr37).i [1])) ?_;refine rnN 2 ?_;refine nkN hK ?_;refine zn (b := (!r37.1)) rfl (fun hc38 => ?_) (fun hc38 => ?_)
     · rw [if_pos hc38] at h;refine rgN [2] ?_;cases h;exact rtA
     rw [xN hc38] at h
     refine rc [1, 10, 76, 77, 78, 102] fun K hK => ?_
     refine rnN 3 ?_;refine zh 3 (fun L τ => L = [(1, .op 0 0 0), (10, .mp 1), (76, .ds true (qe encGMethod a0.fMethods) (qb a0.fMethods) false), (77, .int .i64 (qb a0.fMethods : Int)), (78, .int .i64 x26), (108, .bool ((!r35.2) || (!r36.2)))] ∧ τ = [.cells 0 (encGSchema a0), .map (wu AV.str AV.bool r37.2), .cells 0 [.str y29.fName, .str y29.fIn, .str y29.fOut], .cells 0 (encGMessage r35.1), .cells 0 (encGMessage r36.1)]) ?_ ?_
     · refine zI (b := (!r35.2)) 105 rfl (fun hg105 => ?_) (fun hg105 => ?_)
       · refine rnN 3 ?_;refine zb ⟨rfl, _, _, ⟨rfl, rfl⟩, .b hg105⟩
       refine rnN 3 ?_;refine zb ⟨rfl, _, _, ⟨rfl, rfl⟩, .b hg105⟩
     rintro _ _ ⟨rfl, rfl⟩;refine rnN 1 ?_;refine nkN hK ?_;refine zn (b := ((!r35.2) || (!r36.2))) rfl (fun hc39 => ?_) (fun hc39 => ?_)
     · rw [if_pos hc39] at h;refine rgN [2] ?_;cases h;exact rtA
     rw [xN hc39] at h;apply zd;apply hZ32
     refine rgE tok [1, 10, 76, 77, 78] fun K hK => ?_
     simp only [go_sem, qc, qa, hw29];apply hK
     exact ⟨_, _, _, qr q29.length, ⟨p29 ++ [y29], q29, x26 + 1, r37.2, rfl, rfl, rfl, hE'29, hi'29, h⟩, (.t [0, 1] false)⟩
   obtain ⟨hz22, hw22, hx22, hE'22, hi'22⟩ := zW hE22 hi22 hb22;simp only [zw.l22] at h
   refine rg tok [1, 3, 61, 62, 63, 64] fun K hK => ?_
   simp only [go_sem, qc, qa, hz22];apply hK
   refine za fun Z40 hZ40 => ?_
   refine zp rfl ?_;apply zd;apply hZ40
   refine za fun Z41 hZ41 => ?_
   apply ze;have f42 := E23.idxS hx22;have f43 := E23.loadS rfl rfl hx22
   refine rg tok [1, 3, 8, 61, 62, 63] fun K hK => ?_
   simp only [go_sem, qc, qf, qa, qd, encGEnumeration, f42, f43];apply hK
   refine rc [1, 3, 9, 61, 62, 63] fun K hK => ?_
   obtain ⟨r44, hr44, h⟩ := bind_some h;refine rnN 2 ?_;refine clN rfl rfl rfl (@id (ACalls qh 62 [.mp 1, .agg (encGEnumeration y22)] [.cells 0 (encGSchema a0), .map (wu AV.str AV.bool l18), .cells 0 (encGEnumeration y22)] (fun r' σ' => r' = .int .i64 r44.1 ∧ σ' = [.cells 0 (encGSchema a0), .map (wu AV.str AV.bool r44.2), .cells 0 (encGEnumeration y22)])) ((yr.ok l18 y22 r44 hr44).i [1])) ?_;refine rnN 1 ?_;refine nkN hK ?_;refine rgN [1, 3, 9, 61, 62, 63, 71] ?_;refine zx rfl (fun hc45 => ?_) (fun hc45 => ?_)
   · rw [if_neg hc45] at h;have t46 := eq_false hc45
     refine rg tok [2] fun K hK => ?_
     simp only [go_sem, qc, qa, t46];apply hK
     cases h;exact rtA
   rw [if_pos hc45] at h;have t47 := eq_true hc45;apply zd;apply hZ41
   refine rgE tok [1, 3, 61, 62, 63] fun K hK => ?_
   simp only [go_sem, qc, qa, hw22, t47];apply hK
   exact ⟨_, _, _, qr q22.length, ⟨p22 ++ [y22], q22, x19 + 1, r44.2, rfl, rfl, rfl, hE'22, hi'22, h⟩, (.t [0, 1] false)⟩
 obtain ⟨hz15, hw15, hx15, hE'15, hi'15⟩ := zW hE15 hi15 hb15;simp only [zw.l15] at h
 refine rg tok [1, 3, 46, 47, 48, 49] fun K hK => ?_
 simp only [go_sem, qc, qa, hz15];apply hK
 refine za fun Z48 hZ48 => ?_
 refine zp rfl ?_;apply zd;apply hZ48
 refine za fun Z49 hZ49 => ?_
 apply ze;have f50 := E22.idxS hx15;have f51 := E22.loadS rfl rfl hx15
 refine rg tok [1, 3, 5, 46, 47, 48] fun K hK => ?_
 simp only [go_sem, qc, qf, qa, qd, encGMessage, f50, f51];apply hK
 refine rc [1, 3, 6, 46, 47, 48] fun K hK => ?_
 obtain ⟨r52, hr52, h⟩ := bind_some h;refine rnN 3 ?_;refine clN rfl rfl rfl (@id (ACalls qh 61 [.agg (encGSchema a0), .mp 1, .agg (encGMessage y15)] [.cells 0 (encGSchema a0), .map (wu AV.str AV.bool l11), .cells 0 (encGMessage y15)] (fun r' σ' => r' = .int .i64 r52.1 ∧ σ' = [.cells 0 (encGSchema a0), .map (wu AV.str AV.bool r52.2), .cells 0 (encGMessage y15)])) ((zG.ok a0 l11 y15 r52 hr52).i [1])) ?_;refine rnN 1 ?_;refine nkN hK ?_;refine rgN [1, 3, 6, 46, 47, 48, 57] ?_;refine zx rfl (fun hc53 => ?_) (fun hc53 => ?_)
 · rw [if_neg hc53] at h;have t54 := eq_false hc53
   refine rg tok [2] fun K hK => ?_
   simp only [go_sem, qc, qa, t54];apply hK
   cases h;exact rtA
 rw [if_pos hc53] at h;have t55 := eq_true hc53;apply zd;apply hZ49
 refine rgE tok [1, 3, 46, 47, 48] fun K hK => ?_
 simp only [go_sem, qc, qa, hw15, t55];apply hK
 exact ⟨_, _, _, qr q15.length, ⟨p15 ++ [y15], q15, x12 + 1, r52.2, rfl, rfl, rfl, hE'15, hi'15, h⟩, (.t [0, 1] false)⟩
theorem zw.ev (a0 : GSchema) (r : Int) (h : zw a0 = some r) (σ : Store) : ACalls qh 39 [.agg (encGSchema a0)] σ (fun r' σ' => r' = .int .i64 r ∧ σ' = σ) :=
 (zw.ok a0 r h).c σ
def xo (a0 : GSchema) (a1 : List UInt8) (a2 : List UInt8) : Option (GTree × Int) :=
 (zw a0).bind fun r2 => (if r2 = 0 then bnd (zD a0 a1) fun r6 => (if (!r6.2) = true then some ((⟨0, 0, [], ([] : List GEntry), ([] : List GRaw)⟩ : GTree), 14) else (zy rounds a0 r6.1 a2 1).bind fun r9 => some (r9.1, r9.2)) else some ((⟨0, 0, [], ([] : List GEntry), ([] : List GRaw)⟩ : GTree), 1))
theorem xo.ok (a0 : GSchema) (a1 : List UInt8) (a2 : List UInt8) (r : GTree × Int) (h : xo a0 a1 a2 = some r) : ACalls qh 16 [.agg (encGSchema a0), .str a1, .ds true (qe encB a2) (qb a2) false] [] (fun r' _ => r' = .tup [.agg (cellsGTree r.1), .int .i64 r.2]) := by
 refine zf (rs := [.cell 6 30, .tmp 7]) tok Tryz.func16 rfl Tryz.ntmps16 rfl Tryz.call16 (by simp) ?_;refine zl [(0, .agg (encGSchema a0)), (1, .str a1), (2, .ds true (qe encB a2) (qb a2) false)] ⟨rfl, rfl, rfl, trivial⟩ ?_;unfold xo at h
 refine rg tok [1, 2, 3, 6] fun K hK => ?_
 simp only [go_sem, qc, qa, qd, reduceCtorEq, encGSchema];apply hK
 refine za fun Z1 hZ1 => ?_
 refine rc [1, 2, 3, 6, 12] fun K hK => ?_
 obtain ⟨r2, hr2, h⟩ := bind_some h;refine rnN 1 ?_;refine clN rfl rfl rfl (zw.ev a0 r2 hr2 _) ?_;refine rnN 1 ?_;refine nkN hK ?_;refine zx rfl (fun hc3 => ?_) (fun hc3 => ?_)
 · rw [if_neg hc3] at h;have t4 := eq_false hc3
   refine rg tok [6, 7] fun K hK => ?_
   simp only [go_sem, qc, qf, qa, qd, t4];apply hK
   cases h;exact rtA
 rw [if_pos hc3] at h;have t5 := eq_true hc3;apply zd;apply hZ1
 refine rc [2, 3, 6, 8, 9] fun K hK => ?_
 obtain ⟨r6, hr6, h⟩ := zS h;refine zj tok 2 ?_;simp only [go_sem, qc, qf, qa, qd, t5];refine clN rfl rfl rfl (zD.ev a0 a1 r6 hr6 _) ?_;refine zj tok 6 ?_;simp only [go_sem, qc, qf, qa, qd, encGMessage];refine nkN hK ?_
 refine za fun Z7 hZ7 => ?_
 refine rgN [2, 3, 6, 8, 21] ?_;refine zn (b := (!r6.2)) rfl (fun hc8 => ?_) (fun hc8 => ?_)
 · rw [if_pos hc8] at h;refine rgN [6, 7] ?_;cases h;exact rtA
 rw [xN hc8] at h;apply zd;apply hZ7
 refine rc [6, 7] fun K hK => ?_
 obtain ⟨r9, hr9, h⟩ := bind_some h;refine rnN 3 ?_;refine clN rfl rfl rfl (zy.ev rounds a0 r6.1 a2 1 r9 hr9 _) ?_;refine zj tok 4 ?_;simp only [go_sem, qc, qf, qa, qd, cellsGTree];refine nkN hK ?_;cases h;exact rtA
theorem xo.ev (a0 : GSchema) (a1 : List UInt8) (a2 : List UInt8) (r : GTree × Int) (h : xo a0 a1 a2 = some r) (σ : Store) : ACalls qh 16 [.agg (encGSchema a0), .str a1, .ds true (qe encB a2) (qb a2) false] σ (fun r' σ' => r' = .tup [.agg (cellsGTree r.1), .int .i64 r.2] ∧ σ' = σ) :=
 (xo.ok a0 a1 a2 r h).c σ
def yC.l20 (yY : GTree → Int → Option Int) (a1 : Int) (x7 : Int) (rec10 : Int → Int → Option Int) : List GTree → Int → Int → Option Int
 | [], x17, x16 => (rec10 (x7 + 1) x16)
 | y20 :: q20, x17, x16 => (yY y20 (IntKind.i64.wrap (a1 - 1))).bind fun r26 => ((yC.l20 yY a1 x7 rec10 q20) (x17 + 1) (if x16 < r26 then r26 else x16))
def yC.l10 (yY : GTree → Int → Option Int) (a1 : Int) : List GEntry → Int → Int → Option Int
 | [], x7, x6 => some (IntKind.i64.wrap (x6 + 1))
 | y10 :: q10, x7, x6 => (yC.l20 yY a1 x7 (yC.l10 yY a1 q10) y10.fTrees 0 x6)
def yC.body (yY : GTree → Int → Option Int) (a0 : GTree) (a1 : Int) : Option Int :=
 (if ((!(decide (a0.fKind = 3))) || (decide (a1 = 0))) = true then some 0 else (yC.l10 yY a1 a0.fEntries 0 0))
theorem yC.step (yY : GTree → Int → Option Int) (ih_value_deep : ∀ (a0 : GTree) (a1 : Int) (r : Int), yY a0 a1 = some r → ACalls qh 152 [.agg (cellsGTree a0), .int .i64 a1] [] (fun r' _ => r' = .int .i64 r)) (a0 : GTree) (a1 : Int) (r : Int) (h : yC.body yY a0 a1 = some r) : ACalls qh 152 [.agg (cellsGTree a0), .int .i64 a1] [] (fun r' _ => r' = .int .i64 r) := by
 have ev_value_deep := fun a0 a1 r h σ => (ih_value_deep a0 a1 r h).c σ
 refine zf (rs := [.tmp 4]) tok Tryz.func152 rfl Tryz.ntmps152 rfl Tryz.call152 (by simp) ?_;refine zl [(0, .agg (cellsGTree a0)), (1, .int .i64 a1)] ⟨rfl, rfl, trivial⟩ ?_;unfold yC.body at h
 refine rg tok [1, 2] fun K hK => ?_
 simp only [go_sem, qc, qa, qd, reduceCtorEq, cellsGTree];apply hK
 refine za fun Z1 hZ1 => ?_
 refine rc [1, 2, 16] fun K hK => ?_
 refine rnN 4 ?_;refine zh 3 (fun L τ => L = [(1, .int .i64 a1), (2, .op 0 0 0), (16, .bool ((!(decide (a0.fKind = 3))) || (decide (a1 = 0))))] ∧ τ = [.cells 0 (cellsGTree a0)]) ?_ ?_
 · refine yA 13 rfl (fun hg13 => ?_) (fun hg13 => ?_)
   · have t2 := eq_false hg13;refine rnN 3 ?_;refine zb ⟨rfl, _, _, ⟨rfl, rfl⟩, .p t2⟩
   have t3 := eq_true hg13;refine rnN 3 ?_;refine zb ⟨rfl, _, _, ⟨rfl, rfl⟩, .p t3⟩
 rintro _ _ ⟨rfl, rfl⟩;refine nkN hK ?_;refine zn (b := ((!(decide (a0.fKind = 3))) || (decide (a1 = 0)))) rfl (fun hc4 => ?_) (fun hc4 => ?_)
 · rw [if_pos hc4] at h;refine rgN [4] ?_;cases h;exact rtA
 rw [xN hc4] at h;apply zd;apply hZ1;refine rgN [1, 2, 5] ?_
 refine za fun Z5 hZ5 => ?_
 refine rgN [1, 5, 18, 19, 20] ?_;apply ze
 refine yP 18 fun hb10 => ?_
 replace hb10 : qb a0.fEntries ≤ 9223372036854775807 := hb10.1;refine zq (fun m L τ => ∃ (p10 q10 : List GEntry) (x7 : Int) (x6 : Int), m = qb q10 ∧ L = [(1, .int .i64 a1), (5, .int .i64 x6), (18, .ds true (qe encGEntry a0.fEntries) (qb a0.fEntries) false), (19, .int .i64 (qb a0.fEntries : Int)), (20, .int .i64 x7)] ∧ τ = [] ∧ a0.fEntries = p10 ++ q10 ∧ x7 = (qb p10 : Int) ∧ yC.l10 yY a1 q10 x7 x6 = some r) _ ⟨[], a0.fEntries, 0, 0, rfl, rfl, rfl, rfl, rfl, h⟩ (.t [] false) ?_;rintro m L τ ⟨p10, q10, x7, x6, rfl, rfl, rfl, hE10, hi10, h⟩
 rcases q10 with _ | ⟨y10, q10⟩
 · have hz10 := yl hE10 hi10;simp only [yC.l10] at h
   refine rg tok [1, 5, 18, 19, 20, 21] fun K hK => ?_
   simp only [go_sem, qc, qa, hz10];apply hK
   refine za fun Z11 hZ11 => ?_
   refine zm rfl ?_;apply zv;apply hZ5;refine rgN [4] ?_;cases h;exact rtA
 obtain ⟨hz10, hw10, hx10, hE'10, hi'10⟩ := zW hE10 hi10 hb10;simp only [yC.l10] at h
 refine rg tok [1, 5, 18, 19, 20, 21] fun K hK => ?_
 simp only [go_sem, qc, qa, hz10];apply hK
 refine za fun Z12 hZ12 => ?_
 refine zp rfl ?_;apply zd;apply hZ12
 refine za fun Z13 hZ13 => ?_
 apply ze;have f14 := E27.idxS hx10;have f15 := E27.loadS rfl rfl hx10
 refine rg tok [1, 5, 7, 18, 19, 20] fun K hK => ?_
 simp only [go_sem, qc, qf, qa, qd, cellsGEntry, z7, f14, f15];apply hK
 refine rgN [1, 5, 18, 19, 20, 25, 26, 27] ?_;apply ze
 refine yP 25 fun hb20 => ?_
 replace hb20 : qb y10.fTrees ≤ 9223372036854775807 := hb20.1;refine zq (fun m L τ => ∃ (p20 q20 : List GTree) (x17 : Int) (x16 : Int), m = qb q20 ∧ L = [(1, .int .i64 a1), (5, .int .i64 x16), (18, .ds true (qe encGEntry a0.fEntries) (qb a0.fEntries) false), (19, .int .i64 (qb a0.fEntries : Int)), (20, .int .i64 x7), (25, .ds true (qe encGTree y10.fTrees) (qb y10.fTrees) false), (26, .int .i64 (qb y10.fTrees : Int)), (27, .int .i64 x17)] ∧ τ = [] ∧ y10.fTrees = p20 ++ q20 ∧ x17 = (qb p20 : Int) ∧ yC.l20 yY a1 x7 (yC.l10 yY a1 q10) q20 x17 x16 = some r) _ ⟨[], y10.fTrees, 0, x6, rfl, rfl, rfl, rfl, rfl, h⟩ (.t [] false) ?_;rintro m L τ ⟨p20, q20, x17, x16, rfl, rfl, rfl, hE20, hi20, h⟩
 rcases q20 with _ | ⟨y20, q20⟩
 · have hz20 := yl hE20 hi20;simp only [yC.l20] at h
   refine rg tok [1, 5, 18, 19, 20, 25, 26, 27, 28] fun K hK => ?_
   simp only [go_sem, qc, qa, hz20];apply hK
   refine za fun Z21 hZ21 => ?_
   refine zm rfl ?_;apply zv;apply hZ13
   refine rgE tok [1, 5, 18, 19, 20] fun K hK => ?_
   simp only [go_sem, qc, qa, hw10];apply hK
   exact ⟨_, _, _, qr q10.length, ⟨p10 ++ [y10], q10, x7 + 1, x16, rfl, rfl, rfl, hE'10, hi'10, h⟩, .s⟩
 obtain ⟨hz20, hw20, hx20, hE'20, hi'20⟩ := zW hE20 hi20 hb20;simp only [yC.l20] at h
 refine rg tok [1, 5, 18, 19, 20, 25, 26, 27, 28] fun K hK => ?_
 simp only [go_sem, qc, qa, hz20];apply hK
 refine za fun Z22 hZ22 => ?_
 refine zp rfl ?_;apply zd;apply hZ22
 refine za fun Z23 hZ23 => ?_
 apply ze;have f24 := E90.idxS hx20;have f25 := E90.loadS rfl rfl hx20
 refine rg tok [1, 5, 9, 18, 19, 20, 25, 26, 27] fun K hK => ?_
 simp only [go_sem, qc, qf, qa, qd, cellsGTree, yh, f24, f25];apply hK
 refine rcE [1, 5, 18, 19, 20, 25, 26, 27] fun K hK => ?_
 obtain ⟨r26, hr26, h⟩ := bind_some h;refine rnN 4 ?_;refine clN rfl rfl rfl (ev_value_deep y20 (IntKind.i64.wrap (a1 - 1)) r26 hr26 _) ?_;refine zj tok 2 ?_;simp only [go_sem, qc, qa, vac, foldO, vbY];refine nkN hK ?_;apply hZ23
 refine rgE tok [1, 5, 18, 19, 20, 25, 26, 27] fun K hK => ?_
 simp only [go_sem, qc, qa, hw20];apply hK
 exact ⟨_, _, _, qr q20.length, ⟨p20 ++ [y20], q20, x17 + 1, (if x16 < r26 then r26 else x16), rfl, rfl, rfl, hE'20, hi'20, h⟩, (.t [] false)⟩
def yC : Nat → GTree → Int → Option Int
 | 0, _, _ => none
 | k + 1, a0, a1 => yC.body (yC k) a0 a1
theorem yC.all (k : Nat) : (∀ (a0 : GTree) (a1 : Int) (r : Int), yC k a0 a1 = some r → ACalls qh 152 [.agg (cellsGTree a0), .int .i64 a1] [] (fun r' _ => r' = .int .i64 r)) := by
 induction k with
 | zero => exact (fun a0 a1 r h => by simp only [yC] at h; cases h)
 | succ k ih => exact (fun a0 a1 r h => yC.step _ ih a0 a1 r (by simpa only [yC] using h))
theorem yC.ev (k : Nat) (a0 : GTree) (a1 : Int) (r : Int) (h : yC k a0 a1 = some r) (σ : Store) : ACalls qh 152 [.agg (cellsGTree a0), .int .i64 a1] σ (fun r' σ' => r' = .int .i64 r ∧ σ' = σ) :=
 ((yC.all k) a0 a1 r h).c σ
def w6 (a0 : GTree) : Option Int :=
 (yC rounds a0 101).bind fun r1 => some r1
theorem w6.ok (a0 : GTree) (r : Int) (h : w6 a0 = some r) : ACalls qh 131 [.agg (cellsGTree a0)] [] (fun r' _ => r' = .int .i64 r) := by
 refine zf (rs := [.tmp 2]) tok Tryz.func131 rfl Tryz.ntmps131 rfl Tryz.call131 (by simp) ?_;refine zl [(0, .agg (cellsGTree a0))] ⟨rfl, trivial⟩ ?_;unfold w6 at h
 refine rg tok [1] fun K hK => ?_
 simp only [go_sem, qc, qa, qd, reduceCtorEq, cellsGTree];apply hK
 refine rc [2] fun K hK => ?_
 obtain ⟨r1, hr1, h⟩ := bind_some h;refine rnN 1 ?_;refine clN rfl rfl rfl (yC.ev rounds a0 101 r1 hr1 _) ?_;refine rnN 1 ?_;refine nkN hK ?_;cases h;exact rtA
theorem w6.ev (a0 : GTree) (r : Int) (h : w6 a0 = some r) (σ : Store) : ACalls qh 131 [.agg (cellsGTree a0)] σ (fun r' σ' => r' = .int .i64 r ∧ σ' = σ) :=
 (w6.ok a0 r h).c σ
def yp (a0 : GRaw) : Bool :=
 (if ((decide (a0.fTag < 1)) || (decide (500 < a0.fTag))) = true then false else (if a0.fWire = 0 then decide (a0.fB = []) else (if a0.fWire = 1 then ((decide (a0.fN = 0)) && (decide ((qb a0.fB : Int) ≤ 4096))) else false)))
theorem yp.ok (a0 : GRaw) (r : Bool) (h : yp a0 = r) : ACalls qh 51 [.agg (encGRaw a0)] [] (fun r' _ => r' = .bool r) := by
 refine zf (rs := [.tmp 2]) tok Tryz.func51 rfl Tryz.ntmps51 rfl Tryz.call51 (by simp) ?_;refine zl [(0, .agg (encGRaw a0))] ⟨rfl, trivial⟩ ?_;unfold yp at h
 refine rg tok [1] fun K hK => ?_
 simp only [go_sem, qc, qa, qd, reduceCtorEq, encGRaw];apply hK
 refine za fun Z1 hZ1 => ?_
 refine rc [1, 10] fun K hK => ?_
 refine rnN 4 ?_;refine zh 4 (fun L τ => L = [(1, .op 0 0 0), (10, .bool ((decide (a0.fTag < 1)) || (decide (500 < a0.fTag))))] ∧ τ = [.cells 0 [.int .i64 a0.fTag, .int .i64 a0.fWire, .int .i64 a0.fN, .str a0.fB]]) ?_ ?_
 · refine yA 6 rfl (fun hg6 => ?_) (fun hg6 => ?_)
   · have t2 := eq_true hg6;refine rnN 4 ?_;refine zb ⟨rfl, _, _, ⟨rfl, rfl⟩, .p t2⟩
   have t3 := eq_false hg6;refine rnN 4 ?_;refine zb ⟨rfl, _, _, ⟨rfl, rfl⟩, .p t3⟩
 rintro _ _ ⟨rfl, rfl⟩;refine nkN hK ?_;refine zn (b := ((decide (a0.fTag < 1)) || (decide (500 < a0.fTag)))) rfl (fun hc4 => ?_) (fun hc4 => ?_)
 · rw [if_pos hc4] at h;refine rgN [2] ?_;cases h;exact rtA
 rw [xN hc4] at h;apply zd;apply hZ1
 refine za fun Z5 hZ5 => ?_
 refine rgN [1, 12] ?_;apply ze;refine rgN [1, 12, 13] ?_;refine zx rfl (fun hc6 => ?_) (fun hc6 => ?_)
 · rw [if_pos hc6] at h;have t7 := eq_true hc6
   refine rg tok [2] fun K hK => ?_
   simp only [go_sem, qc, qa, qd, t7];apply hK
   cases h;exact rtA
 rw [if_neg hc6] at h;have t8 := eq_false hc6
 refine rg tok [1, 18] fun K hK => ?_
 simp only [go_sem, qc, qa, t8];apply hK
 refine zx rfl (fun hc9 => ?_) (fun hc9 => ?_)
 · rw [if_pos hc9] at h;have t10 := eq_true hc9
   refine rc [2] fun K hK => ?_
   refine zj tok 4 ?_;simp only [go_sem, qc, qa, qd, t10];refine zh 5 (fun L τ => L = [(28, .bool ((decide (a0.fN = 0)) && (decide ((qb a0.fB : Int) ≤ 4096))))] ∧ τ = [.cells 0 [.int .i64 a0.fTag, .int .i64 a0.fWire, .int .i64 a0.fN, .str a0.fB]]) ?_ ?_
   · refine yA 23 rfl (fun hg23 => ?_) (fun hg23 => ?_)
     · have t11 := eq_true hg23;refine rnN 5 ?_;refine zb ⟨rfl, _, _, ⟨rfl, rfl⟩, .p t11⟩
     have t12 := eq_false hg23;refine rnN 5 ?_;refine zb ⟨rfl, _, _, ⟨rfl, rfl⟩, .p t12⟩
   rintro _ _ ⟨rfl, rfl⟩;refine rnN 1 ?_;refine nkN hK ?_;cases h;exact rtA
 rw [if_neg hc9] at h;have t13 := eq_false hc9;apply zd;apply hZ5
 refine rg tok [2] fun K hK => ?_
 simp only [go_sem, qc, qa, t13];apply hK
 cases h;exact rtA
theorem yp.ev (a0 : GRaw) (r : Bool) (h : yp a0 = r) (σ : Store) : ACalls qh 51 [.agg (encGRaw a0)] σ (fun r' σ' => r' = .bool r ∧ σ' = σ) :=
 (yp.ok a0 r h).c σ
def yW.l4 (a0 : List GRaw) : Nat → Int → Option Bool
 | 0, _ => none
 | k4 + 1, x2 => (if x2 < (qb a0 : Int) then (wV a0 x2).bind fun y9 => (wV a0 (IntKind.i64.wrap (x2 - 1))).bind fun y12 => (if y9.fTag < y12.fTag then some false else ((yW.l4 a0 k4) (IntKind.i64.wrap (x2 + 1)))) else some true)
def yW (a0 : List GRaw) : Option Bool :=
 (yW.l4 a0 rounds 1)
theorem yW.ok (a0 : List GRaw) (r : Bool) (h : yW a0 = some r) : ACalls qh 159 [.ds true (qe encGRaw a0) (qb a0) false] [] (fun r' _ => r' = .bool r) := by
 refine zf (rs := [.tmp 2]) tok Tryz.func159 rfl Tryz.ntmps159 rfl Tryz.call159 (by simp) ?_;refine zl [(0, .ds true (qe encGRaw a0) (qb a0) false)] ⟨rfl, trivial⟩ ?_;unfold yW at h;refine rgN [0] ?_
 refine za fun Z1 hZ1 => ?_
 refine rgN [0, 3] ?_;apply ze;refine zq (fun m L τ => ∃ (k4 : Nat) (x2 : Int), m = 0 + k4 ∧ L = [(0, .ds true (qe encGRaw a0) (qb a0) false), (3, .int .i64 x2)] ∧ τ = [] ∧ yW.l4 a0 k4 x2 = some r) _ ⟨rounds, 1, rfl, rfl, rfl, h⟩ .s ?_;rintro m L τ ⟨k4, x2, rfl, rfl, rfl, h⟩
 rcases k4 with _ | k4
 · cases h
 simp only [yW.l4] at h
 refine za fun Z5 hZ5 => ?_
 refine rgN [0, 3, 7] ?_;refine zx rfl (fun hc6 => ?_) (fun hc6 => ?_)
 · rw [if_pos hc6] at h;have t7 := eq_true hc6;apply zd;apply hZ5
   refine za fun Z8 hZ8 => ?_
   apply ze;obtain ⟨y9, hy9, h⟩ := bind_some h;have f10 := E28.idxS hy9;have f11 := E28.fldS0 (f := 3) rfl rfl hy9;obtain ⟨y12, hy12, h⟩ := bind_some h;have f13 := E28.idxS hy12;have f14 := E28.fldS0 (f := 3) rfl rfl hy12
   refine rd [0, 3, 21] fun K hK => ?_
   refine DW.start (T := tab) [.any, .any, .any, .any, .at [], .any, .any, .any, .any, .any, .at [], .any] [] ?_;refine DW.runN tok 8 ?_;simp only [go_sem, qc, qa, reduceCtorEq, encGRaw, t7, f10, f11];refine DW.runN tok 4 ?_;simp only [go_sem, qc, qa, reduceCtorEq, encGRaw, f13, f14];refine DW.fin tok (by decide +kernel) rfl ?_;simp only [zo, upd, qa, reduceIte, yG, xr];apply hK
   refine zx rfl (fun hc15 => ?_) (fun hc15 => ?_)
   · rw [if_pos hc15] at h;have t16 := eq_true hc15
     refine rg tok [2] fun K hK => ?_
     simp only [go_sem, qc, qa, reduceCtorEq, t16];apply hK
     cases h;exact rtA
   rw [if_neg hc15] at h;have t17 := eq_false hc15;apply zd;apply hZ8
   refine rgE tok [0, 3] fun K hK => ?_
   simp only [go_sem, qc, qa, reduceCtorEq, t17];apply hK
   exact ⟨_, _, _, qr (0 + k4), ⟨k4, IntKind.i64.wrap (x2 + 1), rfl, rfl, rfl, h⟩, .s⟩
 rw [if_neg hc6] at h;have t18 := eq_false hc6;apply zv;apply hZ1
 refine rg tok [2] fun K hK => ?_
 simp only [go_sem, qc, qa, reduceCtorEq, t18];apply hK
 cases h;exact rtA
theorem yW.ev (a0 : List GRaw) (r : Bool) (h : yW a0 = some r) (σ : Store) : ACalls qh 159 [.ds true (qe encGRaw a0) (qb a0) false] σ (fun r' σ' => r' = .bool r ∧ σ' = σ) :=
 (yW.ok a0 r h).c σ
def xl.l16 (x2 : Int) (rec4 : Int → Option Bool) (y4 : GRaw) : List GEntry → Int → Option Bool
 | [], x14 => (rec4 (x2 + 1))
 | y16 :: q16, x14 => (if y16.fTag = y4.fTag then some false else ((xl.l16 x2 rec4 y4 q16) (x14 + 1)))
def xl.l4 (a0 : GTree) : List GRaw → Int → Option Bool
 | [], x2 => (yW a0.fRest).bind fun r6 => some r6
 | y4 :: q4, x2 => bnd (yp y4) fun r12 => (if (!r12) = true then some false else (xl.l16 x2 (xl.l4 a0 q4) y4 a0.fEntries 0))
def xl (a0 : GTree) : Option Bool :=
 (xl.l4 a0 a0.fRest 0)
theorem xl.ok (a0 : GTree) (r : Bool) (h : xl a0 = some r) : ACalls qh 154 [.agg (cellsGTree a0)] [] (fun r' _ => r' = .bool r) := by
 refine zf (rs := [.tmp 2]) tok Tryz.func154 rfl Tryz.ntmps154 rfl Tryz.call154 (by simp) ?_;refine zl [(0, .agg (cellsGTree a0))] ⟨rfl, trivial⟩ ?_;unfold xl at h
 refine rg tok [1] fun K hK => ?_
 simp only [go_sem, qc, qa, qd, reduceCtorEq, cellsGTree];apply hK
 refine za fun Z1 hZ1 => ?_
 refine rgN [1, 8, 9, 10] ?_;apply ze
 refine yP 8 fun hb4 => ?_
 replace hb4 : qb a0.fRest ≤ 9223372036854775807 := hb4.1;refine zq (fun m L τ => ∃ (p4 q4 : List GRaw) (x2 : Int), m = qb q4 ∧ L = [(1, .op 0 0 0), (8, .ds true (qe encGRaw a0.fRest) (qb a0.fRest) false), (9, .int .i64 (qb a0.fRest : Int)), (10, .int .i64 x2)] ∧ τ = [.cells 0 (cellsGTree a0)] ∧ a0.fRest = p4 ++ q4 ∧ x2 = (qb p4 : Int) ∧ xl.l4 a0 q4 x2 = some r) _ ⟨[], a0.fRest, 0, rfl, rfl, rfl, rfl, rfl, h⟩ .s ?_;rintro m L τ ⟨p4, q4, x2, rfl, rfl, rfl, hE4, hi4, h⟩
 rcases q4 with _ | ⟨y4, q4⟩
 · have hz4 := yl hE4 hi4;simp only [xl.l4] at h
   refine rg tok [1, 8, 9, 10, 11] fun K hK => ?_
   simp only [go_sem, qc, qa, hz4];apply hK
   refine za fun Z5 hZ5 => ?_
   refine zm rfl ?_;apply zv;apply hZ1
   refine rc [2] fun K hK => ?_
   obtain ⟨r6, hr6, h⟩ := bind_some h;refine rnN 2 ?_;refine clN rfl rfl rfl (yW.ev a0.fRest r6 hr6 _) ?_;refine rnN 1 ?_;refine nkN hK ?_;cases h;exact rtA
 obtain ⟨hz4, hw4, hx4, hE'4, hi'4⟩ := zW hE4 hi4 hb4;simp only [xl.l4] at h
 refine rg tok [1, 8, 9, 10, 11] fun K hK => ?_
 simp only [go_sem, qc, qa, hz4];apply hK
 refine za fun Z7 hZ7 => ?_
 refine zp rfl ?_;apply zd;apply hZ7
 refine za fun Z8 hZ8 => ?_
 apply ze;have f9 := E28.idxS hx4;have f10 := E28.loadS rfl rfl hx4
 refine rg tok [1, 4, 8, 9, 10] fun K hK => ?_
 simp only [go_sem, qc, qf, qa, qd, encGRaw, f9, f10];apply hK
 refine za fun Z11 hZ11 => ?_
 refine rc [1, 4, 8, 9, 10, 16] fun K hK => ?_
 obtain ⟨r12, hr12, h⟩ := zS h;refine rnN 1 ?_;refine clN rfl rfl rfl (yp.ev y4 r12 hr12 _) ?_;refine rnN 1 ?_;refine nkN hK ?_;refine zn (b := (!r12)) rfl (fun hc13 => ?_) (fun hc13 => ?_)
 · rw [if_pos hc13] at h;refine rgN [2] ?_;cases h;exact rtA
 rw [xN hc13] at h;apply zd;apply hZ11;refine rgN [1, 4, 8, 9, 10, 18, 19, 20] ?_;apply ze
 refine yP 18 fun hb16 => ?_
 replace hb16 : qb a0.fEntries ≤ 9223372036854775807 := hb16.1;refine zq (fun m L τ => ∃ (p16 q16 : List GEntry) (x14 : Int), m = qb q16 ∧ L = [(1, .op 0 0 0), (4, .op 1 0 0), (8, .ds true (qe encGRaw a0.fRest) (qb a0.fRest) false), (9, .int .i64 (qb a0.fRest : Int)), (10, .int .i64 x2), (18, .ds true (qe encGEntry a0.fEntries) (qb a0.fEntries) false), (19, .int .i64 (qb a0.fEntries : Int)), (20, .int .i64 x14)] ∧ τ = [.cells 0 (cellsGTree a0), .cells 0 [.int .i64 y4.fTag, .int .i64 y4.fWire, .int .i64 y4.fN, .str y4.fB]] ∧ a0.fEntries = p16 ++ q16 ∧ x14 = (qb p16 : Int) ∧ xl.l16 x2 (xl.l4 a0 q4) y4 q16 x14 = some r) _ ⟨[], a0.fEntries, 0, rfl, rfl, rfl, rfl, rfl, h⟩ .s ?_;rintro m L τ ⟨p16, q16, x14, rfl, rfl, rfl, hE16, hi16, h⟩
 rcases q16 with _ | ⟨y16, q16⟩
 · have hz16 := yl hE16 hi16;simp only [xl.l16] at h
   refine rg tok [1, 4, 8, 9, 10, 18, 19, 20, 21] fun K hK => ?_
   simp only [go_sem, qc, qa, hz16];apply hK
   refine za fun Z17 hZ17 => ?_
   refine zm rfl ?_;apply zv;apply hZ8
   refine rgE tok [1, 8, 9, 10] fun K hK => ?_
   simp only [go_sem, qc, qa, hw4];apply hK
   exact ⟨_, _, _, qr q4.length, ⟨p4 ++ [y4], q4, x2 + 1, rfl, rfl, rfl, hE'4, hi'4, h⟩, (.t [0] false)⟩
 obtain ⟨hz16, hw16, hx16, hE'16, hi'16⟩ := zW hE16 hi16 hb16;simp only [xl.l16] at h
 refine rg tok [1, 4, 8, 9, 10, 18, 19, 20, 21] fun K hK => ?_
 simp only [go_sem, qc, qa, hz16];apply hK
 refine za fun Z18 hZ18 => ?_
 refine zp rfl ?_;apply zd;apply hZ18
 refine za fun Z19 hZ19 => ?_
 apply ze;have f20 := E27.idxS hx16;have f21 := E27.loadS rfl rfl hx16
 refine rg tok [1, 4, 6, 8, 9, 10, 18, 19, 20] fun K hK => ?_
 simp only [go_sem, qc, qf, qa, qd, cellsGEntry, z7, f20, f21];apply hK
 refine rgN [1, 4, 8, 9, 10, 18, 19, 20, 28] ?_;refine zx rfl (fun hc22 => ?_) (fun hc22 => ?_)
 · rw [if_pos hc22] at h;have t23 := eq_true hc22
   refine rg tok [2] fun K hK => ?_
   simp only [go_sem, qc, qa, t23];apply hK
   cases h;exact rtA
 rw [if_neg hc22] at h;have t24 := eq_false hc22;apply zd;apply hZ19
 refine rgE tok [1, 4, 8, 9, 10, 18, 19, 20] fun K hK => ?_
 simp only [go_sem, qc, qa, hw16, t24];apply hK
 exact ⟨_, _, _, qr q16.length, ⟨p16 ++ [y16], q16, x14 + 1, rfl, rfl, rfl, hE'16, hi'16, h⟩, (.t [0, 1] false)⟩
theorem xl.ev (a0 : GTree) (r : Bool) (h : xl a0 = some r) (σ : Store) : ACalls qh 154 [.agg (cellsGTree a0)] σ (fun r' σ' => r' = .bool r ∧ σ' = σ) :=
 (xl.ok a0 r h).c σ
def zO.j25 (x16 : Int) (rec18 : Int → Option Bool) (x24 : Bool) : Option Bool :=
 (if x24 = true then some false else (rec18 (x16 + 1)))
def zO.l18 (z8 : GTree → Option Bool) (x3 : Int) (rec6 : Int → Int → Option Bool) (y6 : GEntry) : List GTree → Int → Option Bool
 | [], x16 => (rec6 (x3 + 1) y6.fTag)
 | y18 :: q18, x16 => (wV y6.fTrees 0).bind fun y27 => (if y18.fKind = y27.fKind then (z8 y18).bind fun r32 => (zO.j25 x16 (zO.l18 z8 x3 rec6 y6 q18) (!r32)) else (zO.j25 x16 (zO.l18 z8 x3 rec6 y6 q18) true))
def zO.l6 (z8 : GTree → Option Bool) : List GEntry → Int → Int → Option Bool
 | [], x3, x2 => some true
 | y6 :: q6, x3, x2 => (if ((((decide (y6.fTag ≤ x2)) || (decide (500 < y6.fTag))) || (decide ((qb y6.fTrees : Int) < 1))) || (decide (64 < (qb y6.fTrees : Int)))) = true then some false else (zO.l18 z8 x3 (zO.l6 z8 q6) y6 y6.fTrees 0))
def zO.body (xC : GTree → Option Bool) (z8 : GTree → Option Bool) (a0 : GTree) : Option Bool :=
 (zO.l6 z8 a0.fEntries 0 0)
theorem zO.step (xC : GTree → Option Bool) (z8 : GTree → Option Bool) (ZU : ∀ (a0 : GTree) (r : Bool), xC a0 = some r → ACalls qh 153 [.agg (cellsGTree a0)] [] (fun r' _ => r' = .bool r)) (Yt : ∀ (a0 : GTree) (r : Bool), z8 a0 = some r → ACalls qh 132 [.agg (cellsGTree a0)] [] (fun r' _ => r' = .bool r)) (a0 : GTree) (r : Bool) (h : zO.body xC z8 a0 = some r) : ACalls qh 153 [.agg (cellsGTree a0)] [] (fun r' _ => r' = .bool r) := by
 have ev_value_entries := fun a0 r h σ => (ZU a0 r h).c σ
 have ev_value_right := fun a0 r h σ => (Yt a0 r h).c σ
 refine zf (rs := [.tmp 2]) tok Tryz.func153 rfl Tryz.ntmps153 rfl Tryz.call153 (by simp) ?_;refine zl [(0, .agg (cellsGTree a0))] ⟨rfl, trivial⟩ ?_;unfold zO.body at h
 refine rg tok [1] fun K hK => ?_
 simp only [go_sem, qc, qa, qd, reduceCtorEq, cellsGTree];apply hK
 refine rgN [1, 3] ?_
 refine za fun Z1 hZ1 => ?_
 refine rgN [3, 9, 10, 11] ?_;apply ze
 refine yP 9 fun hb6 => ?_
 replace hb6 : qb a0.fEntries ≤ 9223372036854775807 := hb6.1;refine zq (fun m L τ => ∃ (p6 q6 : List GEntry) (x3 : Int) (x2 : Int), m = qb q6 ∧ L = [(3, .int .i64 x2), (9, .ds true (qe encGEntry a0.fEntries) (qb a0.fEntries) false), (10, .int .i64 (qb a0.fEntries : Int)), (11, .int .i64 x3)] ∧ τ = [] ∧ a0.fEntries = p6 ++ q6 ∧ x3 = (qb p6 : Int) ∧ zO.l6 z8 q6 x3 x2 = some r) _ ⟨[], a0.fEntries, 0, 0, rfl, rfl, rfl, rfl, rfl, h⟩ (.t [] false) ?_;rintro m L τ ⟨p6, q6, x3, x2, rfl, rfl, rfl, hE6, hi6, h⟩
 rcases q6 with _ | ⟨y6, q6⟩
 · have hz6 := yl hE6 hi6;simp only [zO.l6] at h
   refine rg tok [3, 9, 10, 11, 12] fun K hK => ?_
   simp only [go_sem, qc, qa, hz6];apply hK
   refine za fun Z7 hZ7 => ?_
   refine zm rfl ?_;apply zv;apply hZ1;refine rgN [2] ?_;cases h;exact rtA
 obtain ⟨hz6, hw6, hx6, hE'6, hi'6⟩ := zW hE6 hi6 hb6;simp only [zO.l6] at h
 refine rg tok [3, 9, 10, 11, 12] fun K hK => ?_
 simp only [go_sem, qc, qa, hz6];apply hK
 refine za fun Z8 hZ8 => ?_
 refine zp rfl ?_;apply zd;apply hZ8
 refine za fun Z9 hZ9 => ?_
 apply ze;have f10 := E27.idxS hx6;have f11 := E27.loadS rfl rfl hx6
 refine rg tok [3, 5, 9, 10, 11] fun K hK => ?_
 simp only [go_sem, qc, qf, qa, qd, cellsGEntry, z7, f10, f11];apply hK
 refine za fun Z12 hZ12 => ?_
 refine rc [5, 9, 10, 11, 35] fun K hK => ?_
 refine rnN 5 ?_;refine zh 4 (fun L τ => L = [(5, .op 0 0 0), (9, .ds true (qe encGEntry a0.fEntries) (qb a0.fEntries) false), (10, .int .i64 (qb a0.fEntries : Int)), (11, .int .i64 x3), (23, .bool ((decide (y6.fTag ≤ x2)) || (decide (500 < y6.fTag))))] ∧ τ = [.cells 0 (cellsGEntry y6)]) ?_ ?_
 · refine yA 19 rfl (fun hg19 => ?_) (fun hg19 => ?_)
   · have t13 := eq_true hg19;refine rnN 4 ?_;refine zb ⟨rfl, _, _, ⟨rfl, rfl⟩, .p t13⟩
   have t14 := eq_false hg19;refine rnN 4 ?_;refine zb ⟨rfl, _, _, ⟨rfl, rfl⟩, .p t14⟩
 rintro _ _ ⟨rfl, rfl⟩;refine rnN 1 ?_;refine zh 5 (fun L τ => L = [(5, .op 0 0 0), (9, .ds true (qe encGEntry a0.fEntries) (qb a0.fEntries) false), (10, .int .i64 (qb a0.fEntries : Int)), (11, .int .i64 x3), (29, .bool (((decide (y6.fTag ≤ x2)) || (decide (500 < y6.fTag))) || (decide ((qb y6.fTrees : Int) < 1))))] ∧ τ = [.cells 0 (cellsGEntry y6)]) ?_ ?_
 · refine zI (b := ((decide (y6.fTag ≤ x2)) || (decide (500 < y6.fTag)))) 24 rfl (fun hg24 => ?_) (fun hg24 => ?_)
   · refine rnN 5 ?_;refine zb ⟨rfl, _, _, ⟨rfl, rfl⟩, .b hg24⟩
   refine rnN 5 ?_;refine zb ⟨rfl, _, _, ⟨rfl, rfl⟩, .b hg24⟩
 rintro _ _ ⟨rfl, rfl⟩;refine rnN 1 ?_;refine zh 5 (fun L τ => L = [(5, .op 0 0 0), (9, .ds true (qe encGEntry a0.fEntries) (qb a0.fEntries) false), (10, .int .i64 (qb a0.fEntries : Int)), (11, .int .i64 x3), (35, .bool ((((decide (y6.fTag ≤ x2)) || (decide (500 < y6.fTag))) || (decide ((qb y6.fTrees : Int) < 1))) || (decide (64 < (qb y6.fTrees : Int)))))] ∧ τ = [.cells 0 (cellsGEntry y6)]) ?_ ?_
 · refine zI (b := (((decide (y6.fTag ≤ x2)) || (decide (500 < y6.fTag))) || (decide ((qb y6.fTrees : Int) < 1)))) 30 rfl (fun hg30 => ?_) (fun hg30 => ?_)
   · refine rnN 5 ?_;refine zb ⟨rfl, _, _, ⟨rfl, rfl⟩, .b hg30⟩
   refine rnN 5 ?_;refine zb ⟨rfl, _, _, ⟨rfl, rfl⟩, .b hg30⟩
 rintro _ _ ⟨rfl, rfl⟩;refine nkN hK ?_;refine zn (b := ((((decide (y6.fTag ≤ x2)) || (decide (500 < y6.fTag))) || (decide ((qb y6.fTrees : Int) < 1))) || (decide (64 < (qb y6.fTrees : Int))))) rfl (fun hc15 => ?_) (fun hc15 => ?_)
 · rw [if_pos hc15] at h;refine rgN [2] ?_;cases h;exact rtA
 rw [xN hc15] at h;apply zd;apply hZ12;refine rgN [3, 5, 9, 10, 11] ?_;refine rgN [3, 5, 9, 10, 11, 39, 40, 41] ?_;apply ze
 refine yP 39 fun hb18 => ?_
 replace hb18 : qb y6.fTrees ≤ 9223372036854775807 := hb18.1;refine zq (fun m L τ => ∃ (p18 q18 : List GTree) (x16 : Int), m = qb q18 ∧ L = [(3, .int .i64 y6.fTag), (5, .op 0 0 0), (9, .ds true (qe encGEntry a0.fEntries) (qb a0.fEntries) false), (10, .int .i64 (qb a0.fEntries : Int)), (11, .int .i64 x3), (39, .ds true (qe encGTree y6.fTrees) (qb y6.fTrees) false), (40, .int .i64 (qb y6.fTrees : Int)), (41, .int .i64 x16)] ∧ τ = [.cells 0 (cellsGEntry y6)] ∧ y6.fTrees = p18 ++ q18 ∧ x16 = (qb p18 : Int) ∧ zO.l18 z8 x3 (zO.l6 z8 q6) y6 q18 x16 = some r) _ ⟨[], y6.fTrees, 0, rfl, rfl, rfl, rfl, rfl, h⟩ .s ?_;rintro m L τ ⟨p18, q18, x16, rfl, rfl, rfl, hE18, hi18, h⟩
 rcases q18 with _ | ⟨y18, q18⟩
 · have hz18 := yl hE18 hi18;simp only [zO.l18] at h
   refine rg tok [3, 5, 9, 10, 11, 39, 40, 41, 42] fun K hK => ?_
   simp only [go_sem, qc, qa, hz18];apply hK
   refine za fun Z19 hZ19 => ?_
   refine zm rfl ?_;apply zv;apply hZ9
   refine rgE tok [3, 9, 10, 11] fun K hK => ?_
   simp only [go_sem, qc, qa, hw6];apply hK
   exact ⟨_, _, _, qr q6.length, ⟨p6 ++ [y6], q6, x3 + 1, y6.fTag, rfl, rfl, rfl, hE'6, hi'6, h⟩, (.t [] false)⟩
 obtain ⟨hz18, hw18, hx18, hE'18, hi'18⟩ := zW hE18 hi18 hb18;simp only [zO.l18] at h
 refine rg tok [3, 5, 9, 10, 11, 39, 40, 41, 42] fun K hK => ?_
 simp only [go_sem, qc, qa, hz18];apply hK
 refine za fun Z20 hZ20 => ?_
 refine zp rfl ?_;apply zd;apply hZ20
 refine za fun Z21 hZ21 => ?_
 apply ze;have f22 := E90.idxS hx18;have f23 := E90.loadS rfl rfl hx18
 refine rg tok [3, 5, 7, 9, 10, 11, 39, 40, 41] fun K hK => ?_
 simp only [go_sem, qc, qf, qa, qd, cellsGTree, yh, f22, f23];apply hK
 refine xy (fun L τ => ∃ (x24 : Bool), L = [(3, .int .i64 y6.fTag), (5, .op 0 0 0), (9, .ds true (qe encGEntry a0.fEntries) (qb a0.fEntries) false), (10, .int .i64 (qb a0.fEntries : Int)), (11, .int .i64 x3), (39, .ds true (qe encGTree y6.fTrees) (qb y6.fTrees) false), (40, .int .i64 (qb y6.fTrees : Int)), (41, .int .i64 x16), (57, .bool x24)] ∧ τ = [.cells 0 (cellsGEntry y6)] ∧ zO.j25 x16 (zO.l18 z8 x3 (zO.l6 z8 q6) y6 q18) x24 = some r) ?_ ?_
 · refine rdE [3, 5, 9, 10, 11, 39, 40, 41, 57] fun K hK => ?_
   refine DW.start (T := tab) [.any, .at [], .any, .at [], .any, .any, .at [], .any, .any, .at [], .eff, .any, .any] [] ?_;obtain ⟨y27, hy27, h⟩ := bind_some h;have f28 := E90.idxS hy27;have f29 := E90.fldS0 (f := 3) rfl rfl hy27;refine DW.runN tok 8 ?_;simp only [go_sem, qc, qa, qd, cellsGTree, yh, f28, f29];refine DW.runN tok 1 ?_;simp only [go_sem, qc, qa]
   refine DW.if 53 rfl (fun hg53 => ?_) (fun hg53 => ?_)
   · rw [if_neg hg53] at h;have t30 := eq_false hg53;refine DW.runN tok 4 ?_;simp only [go_sem, qc, qa, t30];refine DW.fin tok (by decide +kernel) rfl ?_;simp only [zo, upd, qa, reduceIte, yG, xr];apply hK
     exact ⟨_, _, ⟨true, rfl, rfl, h⟩, (.t [0] false)⟩
   rw [if_pos hg53] at h;have t31 := eq_true hg53;obtain ⟨r32, hr32, h⟩ := bind_some h;refine DW.runN tok 1 ?_;simp only [go_sem, qc, qf, qa, qd, t31];refine DW.call rfl rfl rfl (ev_value_right y18 r32 hr32 _) ?_;refine DW.runN tok 2 ?_;simp only [go_sem, qc, qa];refine DW.fin tok (by decide +kernel) rfl ?_;simp only [zo, upd, qa, reduceIte, yG, xr];apply hK
   exact ⟨_, _, ⟨!r32, rfl, rfl, h⟩, (.t [0] false)⟩
 rintro _ _ ⟨x24, rfl, rfl, h⟩;unfold zO.j25 at h;refine zn (b := x24) rfl (fun hc26 => ?_) (fun hc26 => ?_)
 · rw [if_pos hc26] at h;refine rgN [2] ?_;cases h;exact rtA
 rw [xN hc26] at h;apply zd;apply hZ21
 refine rgE tok [3, 5, 9, 10, 11, 39, 40, 41] fun K hK => ?_
 simp only [go_sem, qc, qa, hw18];apply hK
 exact ⟨_, _, _, qr q18.length, ⟨p18 ++ [y18], q18, x16 + 1, rfl, rfl, rfl, hE'18, hi'18, h⟩, .s⟩
def xG.body (xC : GTree → Option Bool) (z8 : GTree → Option Bool) (a0 : GTree) : Option Bool :=
 (if a0.fKind = 1 then some (((decide (a0.fS = [])) && (decide ((qb a0.fEntries : Int) = 0))) && (decide ((qb a0.fRest : Int) = 0))) else (if a0.fKind = 2 then some (((decide (a0.fN = 0)) && (decide ((qb a0.fEntries : Int) = 0))) && (decide ((qb a0.fRest : Int) = 0))) else (if a0.fKind = 3 then (if ((decide (a0.fN = 0)) && (decide (a0.fS = []))) = true then (xC a0).bind fun r16 => some r16 else some false).bind fun c16 => (if c16 = true then (xl a0).bind fun r18 => some r18 else some false).bind fun c18 => some c18 else some false)))
theorem xG.step (xC : GTree → Option Bool) (z8 : GTree → Option Bool) (ZU : ∀ (a0 : GTree) (r : Bool), xC a0 = some r → ACalls qh 153 [.agg (cellsGTree a0)] [] (fun r' _ => r' = .bool r)) (Yt : ∀ (a0 : GTree) (r : Bool), z8 a0 = some r → ACalls qh 132 [.agg (cellsGTree a0)] [] (fun r' _ => r' = .bool r)) (a0 : GTree) (r : Bool) (h : xG.body xC z8 a0 = some r) : ACalls qh 132 [.agg (cellsGTree a0)] [] (fun r' _ => r' = .bool r) := by
 have ev_value_entries := fun a0 r h σ => (ZU a0 r h).c σ
 have ev_value_right := fun a0 r h σ => (Yt a0 r h).c σ
 refine zf (rs := [.tmp 2]) tok Tryz.func132 rfl Tryz.ntmps132 rfl Tryz.call132 (by simp) ?_;refine zl [(0, .agg (cellsGTree a0))] ⟨rfl, trivial⟩ ?_;unfold xG.body at h
 refine rg tok [1] fun K hK => ?_
 simp only [go_sem, qc, qa, qd, reduceCtorEq, cellsGTree];apply hK
 refine za fun Z1 hZ1 => ?_
 refine rgN [1, 4] ?_;apply ze;refine rgN [1, 4, 5] ?_;refine zx rfl (fun hc2 => ?_) (fun hc2 => ?_)
 · rw [if_pos hc2] at h;have t3 := eq_true hc2
   refine rc [2] fun K hK => ?_
   refine zj tok 4 ?_;simp only [go_sem, qc, qa, qd, t3];refine zh 5 (fun L τ => L = [(1, .op 0 0 0), (15, .bool ((decide (a0.fS = [])) && (decide ((qb a0.fEntries : Int) = 0))))] ∧ τ = [.cells 0 (cellsGTree a0)]) ?_ ?_
   · refine yA 10 rfl (fun hg10 => ?_) (fun hg10 => ?_)
     · have t4 := eq_true hg10;refine rnN 5 ?_;refine zb ⟨rfl, _, _, ⟨rfl, rfl⟩, .p t4⟩
     have t5 := eq_false hg10;refine rnN 5 ?_;refine zb ⟨rfl, _, _, ⟨rfl, rfl⟩, .p t5⟩
   rintro _ _ ⟨rfl, rfl⟩;refine rnN 1 ?_;refine zh 5 (fun L τ => L = [(21, .bool (((decide (a0.fS = [])) && (decide ((qb a0.fEntries : Int) = 0))) && (decide ((qb a0.fRest : Int) = 0))))] ∧ τ = [.cells 0 (cellsGTree a0)]) ?_ ?_
   · refine zI (b := ((decide (a0.fS = [])) && (decide ((qb a0.fEntries : Int) = 0)))) 16 rfl (fun hg16 => ?_) (fun hg16 => ?_)
     · refine rnN 5 ?_;refine zb ⟨rfl, _, _, ⟨rfl, rfl⟩, .b hg16⟩
     refine rnN 5 ?_;refine zb ⟨rfl, _, _, ⟨rfl, rfl⟩, .b hg16⟩
   rintro _ _ ⟨rfl, rfl⟩;refine rnN 1 ?_;refine nkN hK ?_;cases h;exact rtA
 rw [if_neg hc2] at h;have t6 := eq_false hc2
 refine rg tok [1, 4, 22] fun K hK => ?_
 simp only [go_sem, qc, qa, t6];apply hK
 refine zx rfl (fun hc7 => ?_) (fun hc7 => ?_)
 · rw [if_pos hc7] at h;have t8 := eq_true hc7
   refine rc [2] fun K hK => ?_
   refine zj tok 4 ?_;simp only [go_sem, qc, qa, qd, t8];refine zh 5 (fun L τ => L = [(1, .op 0 0 0), (32, .bool ((decide (a0.fN = 0)) && (decide ((qb a0.fEntries : Int) = 0))))] ∧ τ = [.cells 0 (cellsGTree a0)]) ?_ ?_
   · refine yA 27 rfl (fun hg27 => ?_) (fun hg27 => ?_)
     · have t9 := eq_true hg27;refine rnN 5 ?_;refine zb ⟨rfl, _, _, ⟨rfl, rfl⟩, .p t9⟩
     have t10 := eq_false hg27;refine rnN 5 ?_;refine zb ⟨rfl, _, _, ⟨rfl, rfl⟩, .p t10⟩
   rintro _ _ ⟨rfl, rfl⟩;refine rnN 1 ?_;refine zh 5 (fun L τ => L = [(38, .bool (((decide (a0.fN = 0)) && (decide ((qb a0.fEntries : Int) = 0))) && (decide ((qb a0.fRest : Int) = 0))))] ∧ τ = [.cells 0 (cellsGTree a0)]) ?_ ?_
   · refine zI (b := ((decide (a0.fN = 0)) && (decide ((qb a0.fEntries : Int) = 0)))) 33 rfl (fun hg33 => ?_) (fun hg33 => ?_)
     · refine rnN 5 ?_;refine zb ⟨rfl, _, _, ⟨rfl, rfl⟩, .b hg33⟩
     refine rnN 5 ?_;refine zb ⟨rfl, _, _, ⟨rfl, rfl⟩, .b hg33⟩
   rintro _ _ ⟨rfl, rfl⟩;refine rnN 1 ?_;refine nkN hK ?_;cases h;exact rtA
 rw [if_neg hc7] at h;have t11 := eq_false hc7
 refine rg tok [1, 39] fun K hK => ?_
 simp only [go_sem, qc, qa, t11];apply hK
 refine zx rfl (fun hc12 => ?_) (fun hc12 => ?_)
 · rw [if_pos hc12] at h;have t13 := eq_true hc12
   refine rc [2] fun K hK => ?_
   refine zj tok 4 ?_;simp only [go_sem, qc, qa, qd, t13];refine zh 4 (fun L τ => L = [(1, .op 0 0 0), (48, .bool ((decide (a0.fN = 0)) && (decide (a0.fS = []))))] ∧ τ = [.cells 0 (cellsGTree a0)]) ?_ ?_
   · refine yA 44 rfl (fun hg44 => ?_) (fun hg44 => ?_)
     · have t14 := eq_true hg44;refine rnN 4 ?_;refine zb ⟨rfl, _, _, ⟨rfl, rfl⟩, .p t14⟩
     have t15 := eq_false hg44;refine rnN 4 ?_;refine zb ⟨rfl, _, _, ⟨rfl, rfl⟩, .p t15⟩
   rintro _ _ ⟨rfl, rfl⟩;refine rnN 1 ?_;obtain ⟨c16, hc16, h⟩ := bind_some h;refine zh 3 (fun L τ => L = [(1, .op 0 0 0), (52, .bool c16)] ∧ τ = [.cells 0 (cellsGTree a0)]) ?_ ?_
   · refine zI (b := ((decide (a0.fN = 0)) && (decide (a0.fS = [])))) 49 rfl (fun hg49 => ?_) (fun hg49 => ?_)
     · rw [if_pos hg49] at hc16;obtain ⟨r17, hr17, hc16⟩ := bind_some hc16;refine rnN 1 ?_;refine clN rfl rfl rfl (ev_value_entries a0 r17 hr17 _) ?_;refine rnN 1 ?_;cases hc16;refine zb ⟨rfl, _, _, ⟨rfl, rfl⟩, .b hg49⟩
     rw [xN hg49] at hc16;refine rnN 3 ?_;cases hc16;refine zb ⟨rfl, _, _, ⟨rfl, rfl⟩, .b hg49⟩
   rintro _ _ ⟨rfl, rfl⟩;refine rnN 1 ?_;obtain ⟨c18, hc18, h⟩ := bind_some h;refine zh 3 (fun L τ => L = [(56, .bool c18)] ∧ τ = [.cells 0 (cellsGTree a0)]) ?_ ?_
   · refine zI (b := c16) 53 rfl (fun hg53 => ?_) (fun hg53 => ?_)
     · rw [if_pos hg53] at hc18;obtain ⟨r19, hr19, hc18⟩ := bind_some hc18;refine rnN 1 ?_;refine clN rfl rfl rfl (xl.ev a0 r19 hr19 _) ?_;refine rnN 1 ?_;cases hc18;refine zb ⟨rfl, _, _, ⟨rfl, rfl⟩, .b hg53⟩
     rw [xN hg53] at hc18;refine rnN 3 ?_;cases hc18;refine zb ⟨rfl, _, _, ⟨rfl, rfl⟩, .b hg53⟩
   rintro _ _ ⟨rfl, rfl⟩;refine rnN 1 ?_;refine nkN hK ?_;cases h;exact rtA
 rw [if_neg hc12] at h;have t20 := eq_false hc12;apply zd;apply hZ1
 refine rg tok [2] fun K hK => ?_
 simp only [go_sem, qc, qa, t20];apply hK
 cases h;exact rtA
mutual
def zO : Nat → GTree → Option Bool
 | 0, _ => none
 | k + 1, a0 => zO.body (zO k) (xG k) a0
def xG : Nat → GTree → Option Bool
 | 0, _ => none
 | k + 1, a0 => xG.body (zO k) (xG k) a0
end
theorem zO.all (k : Nat) : (∀ (a0 : GTree) (r : Bool), zO k a0 = some r → ACalls qh 153 [.agg (cellsGTree a0)] [] (fun r' _ => r' = .bool r)) ∧ (∀ (a0 : GTree) (r : Bool), xG k a0 = some r → ACalls qh 132 [.agg (cellsGTree a0)] [] (fun r' _ => r' = .bool r)) := by
 induction k with
 | zero => exact ⟨(fun a0 r h => by simp only [zO] at h; cases h), (fun a0 r h => by simp only [xG] at h; cases h)⟩
 | succ k ih => exact ⟨(fun a0 r h => zO.step _ _ ih.1 ih.2 a0 r (by simpa only [zO] using h)), (fun a0 r h => xG.step _ _ ih.1 ih.2 a0 r (by simpa only [xG] using h))⟩
theorem xG.ev (k : Nat) (a0 : GTree) (r : Bool) (h : xG k a0 = some r) (σ : Store) : ACalls qh 132 [.agg (cellsGTree a0)] σ (fun r' σ' => r' = .bool r ∧ σ' = σ) :=
 ((zO.all k).2 a0 r h).c σ
def w7 (a0 : GTree) : Option Bool :=
 (w6 a0).bind fun r1 => (if r1 ≤ 10 then (xG rounds a0).bind fun r2 => some r2 else some false).bind fun c2 => some c2
theorem w7.ok (a0 : GTree) (r : Bool) (h : w7 a0 = some r) : ACalls qh 96 [.agg (cellsGTree a0)] [] (fun r' _ => r' = .bool r) := by
 refine zf (rs := [.tmp 2]) tok Tryz.func96 rfl Tryz.ntmps96 rfl Tryz.call96 (by simp) ?_;refine zl [(0, .agg (cellsGTree a0))] ⟨rfl, trivial⟩ ?_;unfold w7 at h
 refine rg tok [1] fun K hK => ?_
 simp only [go_sem, qc, qa, qd, reduceCtorEq, cellsGTree];apply hK
 refine rc [2] fun K hK => ?_
 obtain ⟨r1, hr1, h⟩ := bind_some h;refine rnN 1 ?_;refine clN rfl rfl rfl (w6.ev a0 r1 hr1 _) ?_;refine rnN 2 ?_;obtain ⟨c2, hc2, h⟩ := bind_some h;refine zh 3 (fun L τ => L = [(9, .bool c2)] ∧ τ = [.cells 0 (cellsGTree a0)]) ?_ ?_
 · refine yA 6 rfl (fun hg6 => ?_) (fun hg6 => ?_)
   · have t3 := eq_true hg6;rw [if_pos hg6] at hc2;obtain ⟨r4, hr4, hc2⟩ := bind_some hc2;refine rnN 1 ?_;refine clN rfl rfl rfl (xG.ev rounds a0 r4 hr4 _) ?_;refine rnN 1 ?_;cases hc2;refine zb ⟨rfl, _, _, ⟨rfl, rfl⟩, .p t3⟩
   have t5 := eq_false hg6;rw [if_neg hg6] at hc2;refine rnN 3 ?_;cases hc2;refine zb ⟨rfl, _, _, ⟨rfl, rfl⟩, .p t5⟩
 rintro _ _ ⟨rfl, rfl⟩;refine rnN 1 ?_;refine nkN hK ?_;cases h;exact rtA
theorem w7.ev (a0 : GTree) (r : Bool) (h : w7 a0 = some r) (σ : Store) : ACalls qh 96 [.agg (cellsGTree a0)] σ (fun r' σ' => r' = .bool r ∧ σ' = σ) :=
 (w7.ok a0 r h).c σ
def ZT (a0 : Int) : GValueValue :=
 (GValueValue.num a0)
theorem ZT.ok (a0 : Int) (r : GValueValue) (h : ZT a0 = r) : ACalls qh 133 [.int .i64 a0] [] (fun r' _ => r' = .agg (encGValueValue r)) := by
 refine zf (rs := [.cell 2 110]) tok Tryz.func133 rfl Tryz.ntmps133 rfl Tryz.call133 (by simp) ?_;refine zl [(0, .int .i64 a0)] ⟨rfl, trivial⟩ ?_;unfold ZT at h;refine rgN [0, 2] ?_;refine rgN [2] ?_;cases h;exact rtA
theorem ZT.ev (a0 : Int) (r : GValueValue) (h : ZT a0 = r) (σ : Store) : ACalls qh 133 [.int .i64 a0] σ (fun r' σ' => r' = .agg (encGValueValue r) ∧ σ' = σ) :=
 (ZT.ok a0 r h).c σ
def ZS (a0 : List UInt8) : GValueValue :=
 (GValueValue.str a0)
theorem ZS.ok (a0 : List UInt8) (r : GValueValue) (h : ZS a0 = r) : ACalls qh 134 [.str a0] [] (fun r' _ => r' = .agg (encGValueValue r)) := by
 refine zf (rs := [.cell 2 110]) tok Tryz.func134 rfl Tryz.ntmps134 rfl Tryz.call134 (by simp) ?_;refine zl [(0, .str a0)] ⟨rfl, trivial⟩ ?_;unfold ZS at h;refine rgN [0, 2] ?_;refine rgN [2] ?_;cases h;exact rtA
theorem ZS.ev (a0 : List UInt8) (r : GValueValue) (h : ZS a0 = r) (σ : Store) : ACalls qh 134 [.str a0] σ (fun r' σ' => r' = .agg (encGValueValue r) ∧ σ' = σ) :=
 (ZS.ok a0 r h).c σ
def xf (a0 : List GRaw) : Option (List GRaw) := (ZZ (qb a0) 40).bind fun _ => some a0
theorem xf.ok (a0 r : List GRaw) (h : xf a0 = some r) : ACalls qh 135 [.ds true (qe encGRaw a0) (qb a0) false] [] (fun r' _ => r' = .ds true (qe encGRaw r) (qb r) false) := by
 obtain ⟨_u, hu, h⟩ := bind_some h;have gu := yd hu;cases h
 have f1 := fun nl tt σ => xK E28.len a0 nl tt σ
 have f2 := zr E28.len a0;have f3 := Zf encGRaw a0
 have fin : ∀ σ id ver tt, Store.at σ id ver = some (qe encGRaw a0) → tell σ [] true 12 (.os true 4 id ver 0 (qb a0) tt) = .ds true (qe encGRaw a0) (qb a0) false := by
  intro σ id ver tt hs
  simp only [Zw, Za, hs, qy, qm];rw [if_pos (by rw [f2]; exact qu _), ← f2, ul, zB]
 refine zf (rs := [.tmp 2]) tok Tryz.func135 rfl Tryz.ntmps135 rfl Tryz.call135 (by simp) ?_;refine zl [(0, .ds true (qe encGRaw a0) (qb a0) false)] ⟨rfl, trivial⟩ ?_;refine rgN [0] ?_
 refine za fun Z1 hZ1 => ?_
 refine rc [0, 4] fun K hK => ?_
 refine rnN 1 ?_
 refine vaz tok rfl rfl rfl rfl rfl rfl fun b hnil => ?_
 have hb : b = true → a0 = [] := fun hb => by
  have := hnil hb;simp only [yg, go_sem, reduceCtorEq] at this;exact List.eq_nil_of_length_eq_zero this
 clear hnil
 refine nkN hK ?_;cases b
 · refine zm rfl ?_;apply zd;apply hZ1
   refine rg tok [2] fun K hK => ?_
   by_cases h0 : qb a0 = 0
   · obtain rfl := List.eq_nil_of_length_eq_zero h0;simp only [go_sem, qc, qa, qd, reduceCtorEq, zH, zX, qW, uk, z6, zM, yg, ym, ud, ql, uy, q9];apply hK
     apply yB;simp only [ZC, yQ, xb, xR, exists_eq_left', go_sem]
     first | rfl | (simp only [go_sem, qc, qf, qa, qd, qq, qC, reduceIte, reduceCtorEq, Zw, Za, qw] <;> rfl)
   have h1 := eq_false h0;simp only [go_sem, qc, qa, qd, reduceCtorEq, zH, zX, qW, uk, z6, zM, yg, f1, f3, h1, gu, yv, qw, qz, uy];apply hK
   apply yB;simp only [ZC, yQ, xb, xR, exists_eq_left', go_sem];exact fin _ _ _ _ (by simp only [Store.at_hd, Store.at_tl, if_true])
 obtain rfl := hb rfl;refine zp rfl ?_;refine rgN [2] ?_;apply yB;simp only [ZC, yQ, xb, xR, exists_eq_left', go_sem]
 first | rfl | (simp only [go_sem, qc, qf, qa, qd, qq, qC, reduceIte, reduceCtorEq, YX, qw, qK, qH, qL] <;> rfl)
theorem xf.own (a0 r : List GRaw) (h : xf a0 = some r) : ACalls qh 135 [.ds true (qe encGRaw a0) (qb a0) false] [] (fun r' σ' => r' = .os true 4 0 0 0 (qb r) false ∧ σ' = [.cells 0 (qe encGRaw r)]) := by
 obtain ⟨_u, hu, h⟩ := bind_some h;have gu := yd hu;cases h
 have f1 := fun nl tt σ => xK E28.len a0 nl tt σ
 have f2 := zr E28.len a0;have f3 := Zf encGRaw a0;refine vcd (rs := [.tmp 2]) tok Tryz.func135 rfl Tryz.ntmps135 rfl Tryz.call135 (by simp) ?_;refine zl [(0, .ds true (qe encGRaw a0) (qb a0) false)] ⟨rfl, trivial⟩ ?_;refine rgN [0] ?_
 refine za fun Z1 hZ1 => ?_
 refine rc [0, 4] fun K hK => ?_
 refine rnN 1 ?_
 refine vaz tok rfl rfl rfl rfl rfl rfl fun b hnil => ?_
 have hb : b = true → a0 = [] := fun hb => by
  have := hnil hb;simp only [yg, go_sem, reduceCtorEq] at this;exact List.eq_nil_of_length_eq_zero this
 clear hnil
 refine nkN hK ?_;cases b
 · refine zm rfl ?_;apply zd;apply hZ1
   refine rg tok [2] fun K hK => ?_
   by_cases h0 : qb a0 = 0
   · obtain rfl := List.eq_nil_of_length_eq_zero h0;simp only [go_sem, qc, qa, qd, reduceCtorEq, zH, zX, qW, uk, z6, zM, yg, ym, ud, ql, uy, q9];apply hK
     apply yB;simp only [ZC, yQ, xb, xR, exists_eq_left', go_sem];refine .inl ⟨0, true, by simp, ?_, ?_⟩
     · first | rfl | (simp only [go_sem, qc, qf, qa, qd, qq, qC, reduceIte, reduceCtorEq, Zw, Zg, if_true] <;> rfl)
     first | rfl | (simp only [go_sem, qc, qf, qa, qd, qq, qC, reduceIte, reduceCtorEq, Yz, vbt, Ye, YB, YA, qw] <;> rfl)
   have h1 := eq_false h0;simp only [go_sem, qc, qa, qd, reduceCtorEq, zH, zX, qW, uk, z6, zM, yg, f1, f3, h1, gu, yv, qw, qz, uy];apply hK
   apply yB;simp only [ZC, yQ, xb, xR, exists_eq_left', go_sem, qd];refine .inl ⟨1, false, by simp, ?_, ?_⟩
   · first | rfl | (simp only [go_sem, qc, qf, qa, qd, qq, qC, reduceIte, reduceCtorEq, Zw, Zg, if_true] <;> rfl)
   first | rfl | (simp only [go_sem, Yz, Ye, YB, YA, zB] <;> rfl)
 obtain rfl := hb rfl;refine zp rfl ?_;refine rgN [2] ?_;apply yB;simp only [ZC, yQ, xb, xR, exists_eq_left', go_sem];refine .inr ?_
 first | rfl | (simp only [go_sem, qc, qf, qa, qd, qq, qC, reduceIte, reduceCtorEq, YX, qw, qK, qR, qx, qN] <;> rfl)
theorem xf.ev (a0 r : List GRaw) (h : xf a0 = some r) (σ : Store) : ACalls qh 135 [.ds true (qe encGRaw a0) (qb a0) false] σ (fun r' σ' => r' = .ds true (qe encGRaw r) (qb r) false ∧ σ' = σ) :=
 (xf.ok a0 r h).pureAt (by simp only [AV.canon, canonL, canon_all, qU, qx, Bool.true_or]) (by simp only [AV.canon, canon_all, qU, qx, Bool.true_or]) σ
def yk.l35 (yu : GTree → Option GValueValue) (l14 : List GValueEntry) (x16 : Int) (rec20 : List GValueEntry → Int → Option GValueValue) (y25 : GEntry) : List GTree → Int → List GValueValue → Option GValueValue
 | [], x31, l29 => (ZZ (qb l14 + 1) 32).bind fun _u37 => (rec20 (l14 ++ [(⟨y25.fTag, l29⟩ : GValueEntry)]) (IntKind.i64.wrap (x16 + 1)))
 | y35 :: q35, x31, l29 => (yu y35).bind fun r43 => (ZZ (qb l29 + 1) 16).bind fun _u45 => ((yk.l35 yu l14 x16 rec20 y25 q35) (x31 + 1) (l29 ++ [r43]))
def yk.l20 (yu : GTree → Option GValueValue) (a0 : GTree) (r12 : List GRaw) : Nat → List GValueEntry → Int → Option GValueValue
 | 0, _, _ => none
 | k20 + 1, l14, x16 => (if x16 < (qb a0.fEntries : Int) then (wV a0.fEntries x16).bind fun y25 => (yk.l35 yu l14 x16 (yk.l20 yu a0 r12 k20) y25 y25.fTrees 0 ([] : List GValueValue)) else some (GValueValue.node l14 r12))
def yk.l62 (yu : GTree → Option GValueValue) (a0 : GTree) (r12 : List GRaw) (y52 : GEntry) : List GTree → Int → List GValueValue → Option GValueValue
 | [], x58, l56 => (yk.l20 yu a0 r12 rounds [(⟨y52.fTag, l56⟩ : GValueEntry)] (IntKind.i64.wrap (0 + 1)))
 | y62 :: q62, x58, l56 => (yu y62).bind fun r68 => (ZZ (qb l56 + 1) 16).bind fun _u70 => ((yk.l62 yu a0 r12 y52 q62) (x58 + 1) (l56 ++ [r68]))
def yk.body (yu : GTree → Option GValueValue) (a0 : GTree) : Option GValueValue :=
 (if a0.fKind = 1 then bnd (ZT a0.fN) fun r4 => some r4 else (if a0.fKind = 2 then bnd (ZS a0.fS) fun r9 => some r9 else (xf a0.fRest).bind fun r12 => (if 0 < (qb a0.fEntries : Int) then (wV a0.fEntries 0).bind fun y52 => (yk.l62 yu a0 r12 y52 y52.fTrees 0 ([] : List GValueValue)) else some (GValueValue.node ([] : List GValueEntry) r12))))
theorem yk.step (yu : GTree → Option GValueValue) (ih_value_made : ∀ (a0 : GTree) (r : GValueValue), yu a0 = some r → ACalls qh 97 [.agg (cellsGTree a0)] [] (fun r' _ => r' = .agg (encGValueValue r))) (a0 : GTree) (r : GValueValue) (h : yk.body yu a0 = some r) : ACalls qh 97 [.agg (cellsGTree a0)] [] (fun r' _ => r' = .agg (encGValueValue r)) := by
 have ev_value_made := fun a0 r h σ => (ih_value_made a0 r h).c σ
 refine zf (rs := [.cell 2 110]) tok Tryz.func97 rfl Tryz.ntmps97 rfl Tryz.call97 (by simp) ?_;refine zl [(0, .agg (cellsGTree a0))] ⟨rfl, trivial⟩ ?_;unfold yk.body at h
 refine rg tok [1, 2] fun K hK => ?_
 simp only [go_sem, qc, qa, qd, reduceCtorEq, cellsGTree];apply hK
 refine za fun Z1 hZ1 => ?_
 refine rgN [1, 2, 10] ?_;apply ze;refine rgN [1, 2, 10, 11] ?_;refine zx rfl (fun hc2 => ?_) (fun hc2 => ?_)
 · rw [if_pos hc2] at h;have t3 := eq_true hc2
   refine rc [2] fun K hK => ?_
   obtain ⟨r4, hr4, h⟩ := zS h;refine zj tok 2 ?_;simp only [go_sem, qc, qa, qd, t3];refine clN rfl rfl rfl (ZT.ev a0.fN r4 hr4 _) ?_;have f5 := ZG r4;unfold AV.one at f5;refine zj tok 1 ?_;simp only [go_sem, qf, qa, encGValueValue, f5];refine nkN hK ?_;cases h;exact rtA
 rw [if_neg hc2] at h;have t6 := eq_false hc2
 refine rg tok [1, 2, 16] fun K hK => ?_
 simp only [go_sem, qc, qa, t6];apply hK
 refine zx rfl (fun hc7 => ?_) (fun hc7 => ?_)
 · rw [if_pos hc7] at h;have t8 := eq_true hc7
   refine rc [2] fun K hK => ?_
   obtain ⟨r9, hr9, h⟩ := zS h;refine zj tok 2 ?_;simp only [go_sem, qc, qa, qd, t8];refine clN rfl rfl rfl (ZS.ev a0.fS r9 hr9 _) ?_;have f10 := ZG r9;unfold AV.one at f10;refine zj tok 1 ?_;simp only [go_sem, qf, qa, encGValueValue, f10];refine nkN hK ?_;cases h;exact rtA
 rw [if_neg hc7] at h;have t11 := eq_false hc7;apply zd;apply hZ1
 refine rc [1, 2, 3] fun K hK => ?_
 obtain ⟨r12, hr12, h⟩ := bind_some h;refine zj tok 2 ?_;simp only [go_sem, qc, qa, qd, t11];refine clN rfl rfl rfl (xf.ev a0.fRest r12 hr12 _) ?_;refine rnN 3 ?_;refine nkN hK ?_
 refine za fun Z13 hZ13 => ?_
 refine rgN [2, 3, 27, 28, 29] ?_;apply ze;refine awp_loopS1 (fun m L τ => ∃ (k20 : Nat) (l14 : List GValueEntry) (x16 : Int) (v15 : Nat), m = 0 + k20 ∧ L = [(2, .op 0 0 0), (3, .op 1 0 0), (27, .ds true (qe encGEntry a0.fEntries) (qb a0.fEntries) false), (28, .int .i64 (qb a0.fEntries : Int)), (29, .int .i64 x16)] ∧ τ = [.cells 0 [.nilI], .cells 0 [.os true 2 2 v15 0 (qb l14) false, .ds true (qe encGRaw r12) (qb r12) false], .cells v15 (qe encGValueEntry l14)] ∧ yk.l20 yu a0 r12 k20 l14 x16 = some r) (rounds + 1) ?_ ?_
 · refine rgN [2, 3, 27, 28, 29, 30] ?_
   refine za fun Z48 hZ48 => ?_
   refine zx rfl (fun hc49 => ?_) (fun hc49 => ?_)
   · rw [if_pos hc49] at h;have t50 := eq_true hc49;apply zd;apply hZ48
     refine za fun Z51 hZ51 => ?_
     apply ze;obtain ⟨y52, hy52, h⟩ := bind_some h;have f53 := E27.idxS hy52;have f54 := E27.loadS rfl rfl hy52
     refine rg tok [2, 3, 5, 27, 28, 29] fun K hK => ?_
     simp only [go_sem, qc, qf, qa, qd, cellsGEntry, z7, t50, f53, f54];apply hK
     refine rgN [2, 3, 5, 6, 27, 28, 29] ?_;refine Zr 4 1 1 rfl (by simp) rfl (L := [(2, .op 1 0 0), (3, .op 2 0 0), (5, .op 3 0 0), (6, .op 4 0 0), (27, .ds true (qe encGEntry a0.fEntries) (qb a0.fEntries) false), (28, .int .i64 (qb a0.fEntries : Int)), (29, .int .i64 0)]) (τ := [.cells 0 (cellsGTree a0), .cells 0 [.nilI], .cells 0 [.ds true [] 0 true, .ds true (qe encGRaw r12) (qb r12) false], .cells 0 (cellsGEntry y52), .cells 0 [.int .i64 y52.fTag, .os true 1 5 0 0 (qb ([] : List GValueValue)) false], .cells 0 (qe encGValueValue ([] : List GValueValue))]) .s ?_
     refine za fun Z55 hZ55 => ?_
     refine rgN [2, 3, 6, 27, 28, 29, 37, 38, 39] ?_;apply ze
     refine yP 37 fun hb62 => ?_
     replace hb62 : qb y52.fTrees ≤ 9223372036854775807 := hb62.1;refine zq (fun m L τ => ∃ (p62 q62 : List GTree) (x58 : Int) (l56 : List GValueValue) (v57 : Nat), m = qb q62 ∧ L = [(2, .op 0 0 0), (3, .op 1 0 0), (6, .op 2 0 0), (27, .ds true (qe encGEntry a0.fEntries) (qb a0.fEntries) false), (28, .int .i64 (qb a0.fEntries : Int)), (29, .int .i64 0), (37, .ds true (qe encGTree y52.fTrees) (qb y52.fTrees) false), (38, .int .i64 (qb y52.fTrees : Int)), (39, .int .i64 x58)] ∧ τ = [.cells 0 [.nilI], .cells 0 [.ds true [] 0 true, .ds true (qe encGRaw r12) (qb r12) false], .cells 0 [.int .i64 y52.fTag, .os true 1 3 v57 0 (qb l56) false], .cells v57 (qe encGValueValue l56)] ∧ y52.fTrees = p62 ++ q62 ∧ x58 = (qb p62 : Int) ∧ yk.l62 yu a0 r12 y52 q62 x58 l56 = some r) _ ⟨[], y52.fTrees, 0, ([] : List GValueValue), 0, rfl, rfl, rfl, rfl, rfl, h⟩ (.t [1, 2, 4, 5] false) ?_;rintro m L τ ⟨p62, q62, x58, l56, v57, rfl, rfl, rfl, hE62, hi62, h⟩
     rcases q62 with _ | ⟨y62, q62⟩
     · have hz62 := yl hE62 hi62;simp only [yk.l62] at h
       refine rg tok [2, 3, 6, 27, 28, 29, 37, 38, 39, 40] fun K hK => ?_
       simp only [go_sem, qc, qa, hz62];apply hK
       refine za fun Z63 hZ63 => ?_
       refine zm rfl ?_;apply zv;apply hZ55
       refine rdE [2, 3, 27, 28, 29] fun K hK => ?_
       refine DW.start (T := tab) [.any, .any, .any, .any, .own 1 [], .at [], .eff, .eff, .any, .any, .eff] [(1, [])] ?_;refine DW.runN tok 8 ?_;simp only [go_sem, qc, qf, qa, qd, qq, reduceCtorEq, zH, zX, q2, qW, true_and, ub, z6, zM, yg, yv, q9, qY, AV.one, qU, qz, qj, ql, qm, qE];refine DW.runN tok 3 ?_;simp only [go_sem, qc, qf, qa, qd, qj, ql, qm];refine DW.fin tok (by decide +kernel) rfl ?_;simp only [zo, upd, qa, reduceIte, yG, xr];apply hK
       apply hZ51
       refine rgE tok [2, 3, 27, 28, 29] fun K hK => ?_
       simp only [go_sem, qc, qa];apply hK
       exact ⟨_, _, _, (Nat.lt_succ_of_le (Nat.le_of_eq (qm rounds))), ⟨rounds, [(⟨y52.fTag, l56⟩ : GValueEntry)], IntKind.i64.wrap (0 + 1), 0, rfl, rfl, rfl, h⟩, (.t [0, 1, 5] false)⟩
     obtain ⟨hz62, hw62, hx62, hE'62, hi'62⟩ := zW hE62 hi62 hb62;simp only [yk.l62] at h
     refine rg tok [2, 3, 6, 27, 28, 29, 37, 38, 39, 40] fun K hK => ?_
     simp only [go_sem, qc, qa, hz62];apply hK
     refine za fun Z64 hZ64 => ?_
     refine zp rfl ?_;apply zd;apply hZ64
     refine za fun Z65 hZ65 => ?_
     apply ze;have f66 := E90.idxS hx62;have f67 := E90.loadS rfl rfl hx62
     refine rg tok [2, 3, 6, 8, 27, 28, 29, 37, 38, 39] fun K hK => ?_
     simp only [go_sem, qc, qf, qa, qd, cellsGTree, yh, f66, f67];apply hK
     obtain ⟨r68, hr68, h⟩ := bind_some h;have f69 := ZG r68;unfold AV.one at f69;obtain ⟨_u70, hu70, h⟩ := bind_some h;have gu70 := yd hu70;have f71 := (zr E156.len l56)
     refine rdE [2, 3, 6, 27, 28, 29, 37, 38, 39] fun K hK => ?_
     refine DW.start (T := tab) [.any, .own 2 [], .at [], .eff, .eff, .eff, .any, .eff] [(2, [])] ?_;refine DW.runN tok 3 ?_;simp only [go_sem, qc, qf, qa, qd, encGValueValue, qj, ql, qm];refine DW.call rfl rfl rfl (ev_value_made y62 r68 hr68 _) ?_;refine DW.runN tok 4 ?_;simp only [go_sem, qc, qf, qa, qd, qq, zH, zX, q2, qW, true_and, ub, z6, zM, yg, encGValueValue, f69, gu70, f71, yv, q9, qY, AV.one, qU, qz, qj, ql, qm, qE];refine DW.fin tok (by decide +kernel) rfl ?_;simp only [zo, upd, qa, reduceIte, yG, xr];apply hK
     apply hZ65
     refine rgE tok [2, 3, 6, 27, 28, 29, 37, 38, 39] fun K hK => ?_
     simp only [go_sem, qc, qa, hw62];apply hK
     exact ⟨_, _, _, qr q62.length, ⟨p62 ++ [y62], q62, x58 + 1, l56 ++ [r68], v57 + 1, rfl, rfl, rfl, hE'62, hi'62, h⟩, (.t [0, 1, 2, 3] false)⟩
   rw [if_neg hc49] at h;have t72 := eq_false hc49;apply zv;apply hZ13
   refine rg tok [2] fun K hK => ?_
   simp only [go_sem, qc, qf, qa, t72];apply hK
   cases h;exact rtA
 clear h
 rintro m L τ ⟨k20, l14, x16, v15, rfl, rfl, rfl, h⟩
 rcases k20 with _ | k20
 · cases h
 simp only [yk.l20] at h;refine rgN [2, 3, 27, 28, 29, 30] ?_
 refine za fun Z21 hZ21 => ?_
 refine zx rfl (fun hc22 => ?_) (fun hc22 => ?_)
 · rw [if_pos hc22] at h;have t23 := eq_true hc22;apply zd;apply hZ21
   refine za fun Z24 hZ24 => ?_
   apply ze;obtain ⟨y25, hy25, h⟩ := bind_some h;have f26 := E27.idxS hy25;have f27 := E27.loadS rfl rfl hy25
   refine rg tok [2, 3, 5, 27, 28, 29] fun K hK => ?_
   simp only [go_sem, qc, qf, qa, qd, cellsGEntry, z7, t23, f26, f27];apply hK
   refine rgN [2, 3, 5, 6, 27, 28, 29] ?_;refine Zr 4 1 1 rfl (by simp) rfl (L := [(2, .op 0 0 0), (3, .op 1 0 0), (5, .op 3 0 0), (6, .op 4 0 0), (27, .ds true (qe encGEntry a0.fEntries) (qb a0.fEntries) false), (28, .int .i64 (qb a0.fEntries : Int)), (29, .int .i64 x16)]) (τ := [.cells 0 [.nilI], .cells 0 [.os true 2 2 v15 0 (qb l14) false, .ds true (qe encGRaw r12) (qb r12) false], .cells v15 (qe encGValueEntry l14), .cells 0 (cellsGEntry y25), .cells 0 [.int .i64 y25.fTag, .os true 1 5 0 0 (qb ([] : List GValueValue)) false], .cells 0 (qe encGValueValue ([] : List GValueValue))]) .s ?_
   refine za fun Z28 hZ28 => ?_
   refine rgN [2, 3, 6, 27, 28, 29, 37, 38, 39] ?_;apply ze
   refine yP 37 fun hb35 => ?_
   replace hb35 : qb y25.fTrees ≤ 9223372036854775807 := hb35.1;refine zq (fun m L τ => ∃ (p35 q35 : List GTree) (x31 : Int) (l29 : List GValueValue) (v30 : Nat), m = qb q35 ∧ L = [(2, .op 0 0 0), (3, .op 1 0 0), (6, .op 3 0 0), (27, .ds true (qe encGEntry a0.fEntries) (qb a0.fEntries) false), (28, .int .i64 (qb a0.fEntries : Int)), (29, .int .i64 x16), (37, .ds true (qe encGTree y25.fTrees) (qb y25.fTrees) false), (38, .int .i64 (qb y25.fTrees : Int)), (39, .int .i64 x31)] ∧ τ = [.cells 0 [.nilI], .cells 0 [.os true 2 2 v15 0 (qb l14) false, .ds true (qe encGRaw r12) (qb r12) false], .cells v15 (qe encGValueEntry l14), .cells 0 [.int .i64 y25.fTag, .os true 1 4 v30 0 (qb l29) false], .cells v30 (qe encGValueValue l29)] ∧ y25.fTrees = p35 ++ q35 ∧ x31 = (qb p35 : Int) ∧ yk.l35 yu l14 x16 (yk.l20 yu a0 r12 k20) y25 q35 x31 l29 = some r) _ ⟨[], y25.fTrees, 0, ([] : List GValueValue), 0, rfl, rfl, rfl, rfl, rfl, h⟩ (.t [0, 1, 2, 4, 5] false) ?_;rintro m L τ ⟨p35, q35, x31, l29, v30, rfl, rfl, rfl, hE35, hi35, h⟩
   rcases q35 with _ | ⟨y35, q35⟩
   · have hz35 := yl hE35 hi35;simp only [yk.l35] at h
     refine rg tok [2, 3, 6, 27, 28, 29, 37, 38, 39, 40] fun K hK => ?_
     simp only [go_sem, qc, qa, hz35];apply hK
     refine za fun Z36 hZ36 => ?_
     refine zm rfl ?_;apply zv;apply hZ28;obtain ⟨_u37, hu37, h⟩ := bind_some h;have gu37 := yd hu37;have f38 := (zr E190.len l14)
     refine rdE [2, 3, 27, 28, 29] fun K hK => ?_
     refine DW.start (T := tab) [.any, .any, .any, .any, .own 1 [], .at [], .eff, .eff, .any, .any, .eff] [(1, [])] ?_;refine DW.runN tok 8 ?_;simp only [go_sem, qc, qf, qa, qd, qq, zH, zX, q2, qW, true_and, ub, z6, zM, yg, gu37, f38, yv, q9, qY, AV.one, qU, qz, qj, ql, qm, qE];refine DW.runN tok 3 ?_;simp only [go_sem, qc, qf, qa, qd, qj, ql, qm];refine DW.fin tok (by decide +kernel) rfl ?_;simp only [zo, upd, qa, reduceIte, yG, xr];apply hK
     apply hZ24
     refine rgE tok [2, 3, 27, 28, 29] fun K hK => ?_
     simp only [go_sem, qc, qa];apply hK
     exact ⟨_, _, _, qr (0 + k20), ⟨k20, l14 ++ [(⟨y25.fTag, l29⟩ : GValueEntry)], IntKind.i64.wrap (x16 + 1), v15 + 1, rfl, rfl, rfl, h⟩, (.t [0, 1, 2] false)⟩
   obtain ⟨hz35, hw35, hx35, hE'35, hi'35⟩ := zW hE35 hi35 hb35;simp only [yk.l35] at h
   refine rg tok [2, 3, 6, 27, 28, 29, 37, 38, 39, 40] fun K hK => ?_
   simp only [go_sem, qc, qa, hz35];apply hK
   refine za fun Z39 hZ39 => ?_
   refine zp rfl ?_;apply zd;apply hZ39
   refine za fun Z40 hZ40 => ?_
   apply ze;have f41 := E90.idxS hx35;have f42 := E90.loadS rfl rfl hx35
   refine rg tok [2, 3, 6, 8, 27, 28, 29, 37, 38, 39] fun K hK => ?_
   simp only [go_sem, qc, qf, qa, qd, cellsGTree, yh, f41, f42];apply hK
   obtain ⟨r43, hr43, h⟩ := bind_some h;have f44 := ZG r43;unfold AV.one at f44;obtain ⟨_u45, hu45, h⟩ := bind_some h;have gu45 := yd hu45;have f46 := (zr E156.len l29)
   refine rdE [2, 3, 6, 27, 28, 29, 37, 38, 39] fun K hK => ?_
   refine DW.start (T := tab) [.any, .own 2 [], .at [], .eff, .eff, .eff, .any, .eff] [(2, [])] ?_;refine DW.runN tok 3 ?_;simp only [go_sem, qc, qf, qa, qd, encGValueValue, qj, ql, qm];refine DW.call rfl rfl rfl (ev_value_made y35 r43 hr43 _) ?_;refine DW.runN tok 4 ?_;simp only [go_sem, qc, qf, qa, qd, qq, zH, zX, q2, qW, true_and, ub, z6, zM, yg, encGValueValue, f44, gu45, f46, yv, q9, qY, AV.one, qU, qz, qj, ql, qm, qE];refine DW.fin tok (by decide +kernel) rfl ?_;simp only [zo, upd, qa, reduceIte, yG, xr];apply hK
   apply hZ40
   refine rgE tok [2, 3, 6, 27, 28, 29, 37, 38, 39] fun K hK => ?_
   simp only [go_sem, qc, qa, hw35];apply hK
   exact ⟨_, _, _, qr q35.length, ⟨p35 ++ [y35], q35, x31 + 1, l29 ++ [r43], v30 + 1, rfl, rfl, rfl, hE'35, hi'35, h⟩, (.t [0, 1, 2, 3, 4] false)⟩
 rw [if_neg hc22] at h;have t47 := eq_false hc22;apply zv;apply hZ13
 refine rg tok [2] fun K hK => ?_
 simp only [go_sem, qc, qf, qa, t47];apply hK
 cases h;exact rtA
def yk : Nat → GTree → Option GValueValue
 | 0, _ => none
 | k + 1, a0 => yk.body (yk k) a0
theorem yk.all (k : Nat) : (∀ (a0 : GTree) (r : GValueValue), yk k a0 = some r → ACalls qh 97 [.agg (cellsGTree a0)] [] (fun r' _ => r' = .agg (encGValueValue r))) := by
 induction k with
 | zero => exact (fun a0 r h => by simp only [yk] at h; cases h)
 | succ k ih => exact (fun a0 r h => yk.step _ ih a0 r (by simpa only [yk] using h))
theorem yk.ev (k : Nat) (a0 : GTree) (r : GValueValue) (h : yk k a0 = some r) (σ : Store) : ACalls qh 97 [.agg (cellsGTree a0)] σ (fun r' σ' => r' = .agg (encGValueValue r) ∧ σ' = σ) :=
 ((yk.all k) a0 r h).c σ
def Yl (a0 : GTree) : Option (GValueValue × Bool) :=
 (w7 a0).bind fun r2 => (if (!r2) = true then some (GValueValue.nil, false) else (yk rounds a0).bind fun r4 => some (r4, true))
theorem Yl.ok (a0 : GTree) (r : GValueValue × Bool) (h : Yl a0 = some r) : ACalls qh 57 [.agg (cellsGTree a0)] [] (fun r' _ => r' = .tup [.agg (encGValueValue r.1), .bool r.2]) := by
 refine zf (rs := [.cell 2 110, .tmp 3]) tok Tryz.func57 rfl Tryz.ntmps57 rfl Tryz.call57 (by simp) ?_;refine zl [(0, .agg (cellsGTree a0))] ⟨rfl, trivial⟩ ?_;unfold Yl at h
 refine rg tok [1, 2] fun K hK => ?_
 simp only [go_sem, qc, qa, qd, reduceCtorEq, cellsGTree];apply hK
 refine za fun Z1 hZ1 => ?_
 refine rc [1, 2, 6] fun K hK => ?_
 obtain ⟨r2, hr2, h⟩ := bind_some h;refine rnN 1 ?_;refine clN rfl rfl rfl (w7.ev a0 r2 hr2 _) ?_;refine rnN 1 ?_;refine nkN hK ?_;refine zn (b := (!r2)) rfl (fun hc3 => ?_) (fun hc3 => ?_)
 · rw [if_pos hc3] at h;refine rgN [2, 3] ?_;cases h;exact rtA
 rw [xN hc3] at h;apply zd;apply hZ1
 refine rc [2, 3] fun K hK => ?_
 obtain ⟨r4, hr4, h⟩ := bind_some h;refine rnN 1 ?_;refine clN rfl rfl rfl (yk.ev rounds a0 r4 hr4 _) ?_;have f5 := ZG r4;unfold AV.one at f5;refine zj tok 2 ?_;simp only [go_sem, qc, qf, qa, encGValueValue, f5];refine nkN hK ?_;cases h;exact rtA
theorem Yl.ev (a0 : GTree) (r : GValueValue × Bool) (h : Yl a0 = some r) (σ : Store) : ACalls qh 57 [.agg (cellsGTree a0)] σ (fun r' σ' => r' = .tup [.agg (encGValueValue r.1), .bool r.2] ∧ σ' = σ) :=
 (Yl.ok a0 r h).c σ
def yI (a0 : GValueValue) : Option GValueNode :=
 (match a0 with | .nil => none | .num n2 => none | .str s2 => none | .node e2 r2 => some (⟨e2, r2⟩ : GValueNode))
theorem yI.ok (a0 : GValueValue) (r : GValueNode) (h : yI a0 = some r) : ACalls qh 59 [.agg (encGValueValue a0)] [] (fun r' _ => r' = .dp (encGValueNode r) 0) := by
 refine zf (rs := [.tmp 2]) tok Tryz.func59 rfl Tryz.ntmps59 rfl Tryz.call59 (by simp) ?_;refine zl [(0, .agg (encGValueValue a0))] ⟨rfl, trivial⟩ ?_;unfold yI at h;have f1 := ZG a0;unfold AV.one at f1
 refine rg tok [1] fun K hK => ?_
 simp only [go_sem, qc, qa, reduceCtorEq, encGValueValue, f1];apply hK
 rcases a0 with _ | n2 | s2 | ⟨e2, r2⟩
 · dsimp only at h
   try simp only [vbj]
   cases h
 · dsimp only at h
   try simp only [vbi]
   cases h
 · dsimp only at h
   try simp only [vbh]
   cases h
 dsimp only at h
 try simp only [Xr]
 refine rg tok [2] fun K hK => ?_
 simp only [go_sem, qc, qa, xV, xZ, TypeDesc.isIface];apply hK
 cases h;exact rtA
theorem yI.ev (a0 : GValueValue) (r : GValueNode) (h : yI a0 = some r) (σ : Store) : ACalls qh 59 [.agg (encGValueValue a0)] σ (fun r' σ' => r' = .dp (encGValueNode r) 0 ∧ σ' = σ) :=
 (yI.ok a0 r h).c σ
def w5 (a0 : GValueNode) : Option (List GRaw) :=
 (xf a0.frest).bind fun r1 => some r1
theorem w5.own (a0 : GValueNode) (r : List GRaw) (h : w5 a0 = some r) : ACalls qh 98 [.dp (encGValueNode a0) 0] [] (fun r' σ' => r' = .os true 4 0 0 0 (qb r) false ∧ σ' = [.cells 0 (qe encGRaw r)]) := by
 refine ACalls.own0 (by simp only [push_cast]) ?_;refine ZM (rs := [.tmp 2]) tok Tryz.func98 rfl Tryz.ntmps98 rfl Tryz.call98 (by simp) ?_;refine zl [(0, .dp (encGValueNode a0) 0)] ⟨rfl, trivial⟩ ?_;unfold w5 at h;refine rgN [0] ?_
 refine rc [2] fun K hK => ?_
 obtain ⟨r1, hr1, h⟩ := bind_some h;refine zj tok 4 ?_;simp only [go_sem, qc, qa, qd, reduceCtorEq, encGValueNode, vab];refine clN rfl rfl rfl (@id (ACalls qh 135 [.ds true (qe encGRaw a0.frest) (qb a0.frest) false] [] (fun r' σ' => r' = .os true 4 0 0 0 (qb r1) false ∧ σ' = [.cells 0 (qe encGRaw r1)])) ((xf.own a0.frest r1 hr1).ownAt0 (by simp only [push_cast]) (by simp only [push_cast]) _)) ?_;refine rnN 1 ?_;refine nkN hK ?_;apply yB;cases h;simp only [ZC, yQ, xb, xR, exists_eq_left', go_sem];refine ⟨0, 0, by simp, ?_, ?_⟩
 · first | rfl | (simp only [go_sem, qc, qf, qa, qd, qq, qC, reduceIte, reduceCtorEq, push_cast, if_true, qy, qm, qG, qw, qD, qK, qR, qN, qL, qH, qx, zB, encGRaw] <;> rfl)
 first | rfl | (simp only [go_sem, push_cast, qw, zB] <;> rfl)
def yx.l8 : List GValueEntry → Int → List Int → Option (List Int)
 | [], x4, l2 => some l2
 | y8 :: q8, x4, l2 => (ZZ (qb l2 + 1) 8).bind fun _u14 => ((yx.l8 q8) (x4 + 1) (l2 ++ [y8.ftag]))
def yx (a0 : GValueNode) : Option (List Int) :=
 (yx.l8 a0.fentries 0 ([] : List Int))
theorem yx.own (a0 : GValueNode) (r : List Int) (h : yx a0 = some r) : ACalls qh 99 [.dp (encGValueNode a0) 0] [] (fun r' σ' => r' = .os true 1 0 0 0 (qb r) false ∧ σ' = [.cells 0 (qe encI r)]) := by
 refine ACalls.own0 (by simp only [push_cast]) ?_;refine ZM (rs := [.tmp 2]) tok Tryz.func99 rfl Tryz.ntmps99 rfl Tryz.call99 (by simp) ?_;refine zl [(0, .dp (encGValueNode a0) 0)] ⟨rfl, trivial⟩ ?_;unfold yx at h;refine rgN [0] ?_;refine rgN [0, 3] ?_;refine wC 3 1 rfl ?_;refine zU (L := [(0, .dp (encGValueNode a0) 0), (3, .os true 1 0 0 0 (qb ([] : List Int)) false)]) (τ := [.cells 0 (qe encI ([] : List Int))]) .s ?_
 refine za fun Z1 hZ1 => ?_
 refine rg tok [3, 9, 10, 11] fun K hK => ?_
 simp only [go_sem, qc, qa, qd, reduceCtorEq, encGValueNode, vab];apply hK
 apply ze
 refine yP 9 fun hb8 => ?_
 replace hb8 : qb a0.fentries ≤ 9223372036854775807 := hb8.1;refine zq (fun m L τ => ∃ (p8 q8 : List GValueEntry) (x4 : Int) (l2 : List Int) (v3 : Nat), m = qb q8 ∧ L = [(3, .os true 1 0 v3 0 (qb l2) false), (9, .ds true (qe encGValueEntry a0.fentries) (qb a0.fentries) false), (10, .int .i64 (qb a0.fentries : Int)), (11, .int .i64 x4)] ∧ τ = [.cells v3 (qe encI l2)] ∧ a0.fentries = p8 ++ q8 ∧ x4 = (qb p8 : Int) ∧ yx.l8 q8 x4 l2 = some r) _ ⟨[], a0.fentries, 0, ([] : List Int), 0, rfl, rfl, rfl, rfl, rfl, h⟩ .s ?_;rintro m L τ ⟨p8, q8, x4, l2, v3, rfl, rfl, rfl, hE8, hi8, h⟩
 rcases q8 with _ | ⟨y8, q8⟩
 · have hz8 := yl hE8 hi8;simp only [yx.l8] at h
   refine rg tok [3, 9, 10, 11, 12] fun K hK => ?_
   simp only [go_sem, qc, qa, hz8];apply hK
   refine za fun Z9 hZ9 => ?_
   refine zm rfl ?_;apply zv;apply hZ1;refine rgN [2] ?_;apply yB;cases h;simp only [ZC, yQ, xb, xR, exists_eq_left', go_sem];refine ⟨0, v3, by simp, ?_, ?_⟩
   · first | rfl | (simp only [go_sem, qc, qf, qa, qd, qq, qC, reduceIte, reduceCtorEq, push_cast, if_true, qy, qm, qG, qw, qD, qK, qR, qN, qL, qH, qx, zB] <;> rfl)
   first | rfl | (simp only [go_sem, push_cast, qw, zB] <;> rfl)
 obtain ⟨hz8, hw8, hx8, hE'8, hi'8⟩ := zW hE8 hi8 hb8;simp only [yx.l8] at h
 refine rg tok [3, 9, 10, 11, 12] fun K hK => ?_
 simp only [go_sem, qc, qa, hz8];apply hK
 refine za fun Z10 hZ10 => ?_
 refine zp rfl ?_;apply zd;apply hZ10
 refine za fun Z11 hZ11 => ?_
 apply ze;have f12 := E190.idxS hx8;have f13 := E190.loadS rfl rfl hx8
 refine rg tok [3, 5, 9, 10, 11] fun K hK => ?_
 simp only [go_sem, qc, qf, qa, qd, cellsGValueEntry, xT, f12, f13];apply hK
 obtain ⟨_u14, hu14, h⟩ := bind_some h;have gu14 := yd hu14;have f15 := (zr E45.len l2)
 refine rgE tok [3, 9, 10, 11] fun K hK => ?_
 simp only [go_sem, qc, qf, qa, qd, qq, zH, zX, q2, qW, true_and, ub, z6, zM, yg, gu14, f15, yv, q9, qY, AV.one, qU, qz, qj, ql, qm, qE];apply hK
 apply hZ11
 refine rgE tok [3, 9, 10, 11] fun K hK => ?_
 simp only [go_sem, qc, qa, hw8];apply hK
 exact ⟨_, _, _, qr q8.length, ⟨p8 ++ [y8], q8, x4 + 1, l2 ++ [y8.ftag], v3 + 1, rfl, rfl, rfl, hE'8, hi'8, h⟩, (.t [0] false)⟩
end
end Go.Proofs.YtaddlmlpeghonaaGreatDoor
