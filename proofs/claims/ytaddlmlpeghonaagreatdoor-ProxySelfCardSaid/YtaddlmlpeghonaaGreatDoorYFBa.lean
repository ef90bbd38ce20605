/- Parts of the proof, cut down to what it needs. -/
import Derived.Test.YtaddlmlpeghonaaGreatDoorYFB
set_option linter.constructorNameAsVariable false
set_option linter.unusedSimpArgs false
set_option linter.unusedVariables false
namespace Go.Proofs.YtaddlmlpeghonaaGreatDoor
open _root_.List renaming length → qb, flatMap → qe, length_append → qi, length_cons → qj, length_nil → ql, mem_cons_self → qp, append_assoc → qq, mem_cons_of_mem → qr, getD_eq_getElem?_getD → qv, map_nil → qw, append_nil → qy, nil_append → qA, drop_zero → qB, map_append → qC, map_cons → qD, cons_append → qE, length_singleton → qF, length_eq_zero_iff → qI, replicate → qJ, mem_cons → qK, getElem?_append_left → qR, flatMap_cons → qT, all_cons → qW, getElem?_eq_getElem → qX, range_zero → qY, getElem?_eq_some_iff → q2, flatMap_append → q3, length_map → q7, range_succ → q9, all_nil → ua, all_eq_true → ub, getElem?_set_ne → uc, take_of_length_le → ug, getElem?_append_right → uh, flatMap_nil → ui, take_length → ul, pairwise_cons → um, take_append_drop → un, mem_append_right → uo, getElem?_set_self → ut, getElem?_eq_none → uu, set_cons_zero → uv, mem_append → uw, mem_map → ux, mem_singleton → uA, filter_cons → uB, range → uD, getElem?_cons_zero → uG, getElem?_cons_succ → uH, length_take → uI, length_drop → uJ, set_cons_succ → uO, mem_append_left → uS, drop_eq_getElem_cons → uU, nodup_cons → uW, eq_nil_of_length_eq_zero → u0, drop_drop → u5
open _root_.Option renaming bind_some → qg, map_some → uz, getD_some → uN
open _root_.Nat renaming reduceEqDiff → qa, reduceLT → qc, reduceAdd → qd, reduceLeDiff → qf, zero_add → qn, lt_succ_self → qs, reduceMul → qt, le_refl → qu, reduceSub → qG, mul_le_mul_right → qZ, reduceMod → ue, lt_of_lt_of_le → uf, zero_le → uk, le_trans → ur, zero_mul → uC, sub_self → uL, sub_zero → uM, succ_mul → uQ, add_zero → uR, add_mul → uV, lt_or_ge → uY, add_assoc → u3
open _root_.Bool renaming and_eq_true → qm, not_false → qz, not_true → qL, or_eq_true → qM, or_true → qO, and_false → qP, and_true → qQ, or_false → qS, and_self → qU, false_eq_true → q1, true_and → uq, not_eq_true' → uE, false_or → uF, false_ne_true → uK, true_or → uT
open _root_.Int renaming toNat → qH, toNat_natCast → qV, reduceEq → uZ, le_refl → u4
open _root_.BitVec renaming ofInt → qx, toNat → uj
open _root_.Array renaming length_toList → ud, getD_eq_getD_getElem? → uy, getElem?_eq_getElem → uP, getElem?_setIfInBounds_ne → uX, getElem?_modify → u6
open _root_.UInt8 renaming ofNat → q5
open Result renaming andThen_ok → qk
open Sem renaming run_bind → qo, run_pure → qN
open _root_.Go.Proofs.Tryz renaming prog → qh
section
set_option maxRecDepth 4000
set_option maxHeartbeats 1000000
open AM
def zm.l29 (a0 : GSchema) : List GMethod → Int → List (List UInt8 × Bool) → Option Int
 | [], x26, l25 => some 0
 | y29 :: q29, x26, l25 => bnd (zC a0 y29.fIn) fun r35 => bnd (zC a0 y29.fOut) fun r36 => (yk l25 y29.fName).bind fun r37 => (if (!r37.1) = true then some 6 else (if ((!r35.2) || (!r36.2)) = true then some 8 else ((zm.l29 a0 q29) (x26 + 1) r37.2)))
def zm.l22 (a0 : GSchema) : List GEnumeration → Int → List (List UInt8 × Bool) → Option Int
 | [], x19, l18 => (zm.l29 a0 a0.fMethods 0 [])
 | y22 :: q22, x19, l18 => (yu l18 y22).bind fun r44 => (if r44.1 = 0 then ((zm.l22 a0 q22) (x19 + 1) r44.2) else some r44.1)
def zm.l15 (a0 : GSchema) : List GMessage → Int → List (List UInt8 × Bool) → Option Int
 | [], x12, l11 => (zm.l22 a0 a0.fEnums 0 l11)
 | y15 :: q15, x12, l11 => (zG a0 l11 y15).bind fun r52 => (if r52.1 = 0 then ((zm.l15 a0 q15) (x12 + 1) r52.2) else some r52.1)
def zm (a0 : GSchema) : Option Int :=
 (yC a0.fName).bind fun r2 => (if (!r2) = true then some 6 else (if (qb a0.fMessages : Int) = 0 then some 12 else (if (((decide (10 < (qb a0.fMessages : Int))) || (decide (6 < (qb a0.fEnums : Int)))) || (decide (6 < (qb a0.fMethods : Int)))) = true then some 4 else (zm.l15 a0 a0.fMessages 0 []))))
theorem zm.ok (a0 : GSchema) (r : Int) (h : zm a0 = some r) : ACalls qh 39 [.agg (encGSchema a0)] [] (fun r' _ => r' = .int .i64 r) := by
 refine zf (rs := [.tmp 2]) tok Tryz.func39 rfl Tryz.ntmps39 rfl Tryz.call39 (by simp) ?_;refine zl [(0, .agg (encGSchema a0))] ⟨rfl, trivial⟩ ?_;unfold zm at h
 refine rg tok [1] fun K hK => ?_
 simp only [go_sem, qc, qa, qd, reduceCtorEq, encGSchema];apply hK
 refine za fun Z1 hZ1 => ?_
 apply ze
 refine rc [1, 17] fun K hK => ?_
 obtain ⟨r2, hr2, h⟩ := bind_some h;refine rnN 2 ?_;refine clN rfl rfl rfl (yC.ev a0.fName r2 hr2 _) ?_;refine rnN 2 ?_;refine nkN hK ?_;refine zn (b := (!r2)) rfl (fun hc3 => ?_) (fun hc3 => ?_)
 · rw [if_pos hc3] at h;refine rgN [2] ?_;cases h;exact rtA
 rw [xP hc3] at h;refine rgN [1, 22] ?_;refine zw rfl (fun hc4 => ?_) (fun hc4 => ?_)
 · rw [if_pos hc4] at h;have t5 := eq_true hc4
   refine rg tok [2] fun K hK => ?_
   simp only [go_sem, qc, qa, t5];apply hK
   cases h;exact rtA
 rw [if_neg hc4] at h;have t6 := eq_false hc4
 refine rc [1, 27] fun K hK => ?_
 refine zj tok 5 ?_;simp only [go_sem, qc, qa, qd, t6];refine zh 5 (fun L τ => L = [(1, .op 0 0 0), (37, .bool ((decide (10 < (qb a0.fMessages : Int))) || (decide (6 < (qb a0.fEnums : Int)))))] ∧ τ = [.cells 0 (encGSchema a0)]) ?_ ?_
 · refine yF 32 rfl (fun hg32 => ?_) (fun hg32 => ?_)
   · have t7 := eq_true hg32;refine rnN 5 ?_;refine zb ⟨rfl, _, _, ⟨rfl, rfl⟩, .p t7⟩
   have t8 := eq_false hg32;refine rnN 5 ?_;refine zb ⟨rfl, _, _, ⟨rfl, rfl⟩, .p t8⟩
 rintro _ _ ⟨rfl, rfl⟩;refine rnN 1 ?_;refine zh 5 (fun L τ => L = [(1, .op 0 0 0), (43, .bool (((decide (10 < (qb a0.fMessages : Int))) || (decide (6 < (qb a0.fEnums : Int)))) || (decide (6 < (qb a0.fMethods : Int)))))] ∧ τ = [.cells 0 (encGSchema a0)]) ?_ ?_
 · refine zI (b := ((decide (10 < (qb a0.fMessages : Int))) || (decide (6 < (qb a0.fEnums : Int))))) 38 rfl (fun hg38 => ?_) (fun hg38 => ?_)
   · refine rnN 5 ?_;refine zb ⟨rfl, _, _, ⟨rfl, rfl⟩, .b hg38⟩
   refine rnN 5 ?_;refine zb ⟨rfl, _, _, ⟨rfl, rfl⟩, .b hg38⟩
 rintro _ _ ⟨rfl, rfl⟩;refine rnN 1 ?_;refine nkN hK ?_;refine zn (b := (((decide (10 < (qb a0.fMessages : Int))) || (decide (6 < (qb a0.fEnums : Int)))) || (decide (6 < (qb a0.fMethods : Int))))) rfl (fun hc9 => ?_) (fun hc9 => ?_)
 · rw [if_pos hc9] at h;refine rgN [2] ?_;cases h;exact rtA
 rw [xP hc9] at h;apply zd;apply hZ1;refine rgN [1, 3] ?_;refine zV (L := [(1, .op 0 0 0), (3, .mp 1)]) (τ := [.cells 0 (encGSchema a0), .map (wA AV.str AV.bool [])]) .s ?_
 refine za fun Z10 hZ10 => ?_
 refine rgN [1, 3, 46, 47, 48] ?_;apply ze
 refine yU 46 fun hb15 => ?_
 replace hb15 : qb a0.fMessages ≤ 9223372036854775807 := hb15.1;refine zr (fun m L τ => ∃ (p15 q15 : List GMessage) (x12 : Int) (l11 : List (List UInt8 × Bool)), m = qb q15 ∧ L = [(1, .op 0 0 0), (3, .mp 1), (46, .ds true (qe encGMessage a0.fMessages) (qb a0.fMessages) false), (47, .int .i64 (qb a0.fMessages : Int)), (48, .int .i64 x12)] ∧ τ = [.cells 0 (encGSchema a0), .map (wA AV.str AV.bool l11)] ∧ a0.fMessages = p15 ++ q15 ∧ x12 = (qb p15 : Int) ∧ zm.l15 a0 q15 x12 l11 = some r) _ ⟨[], a0.fMessages, 0, [], rfl, rfl, rfl, rfl, rfl, h⟩ .s ?_;rintro m L τ ⟨p15, q15, x12, l11, rfl, rfl, rfl, hE15, hi15, h⟩
 rcases q15 with _ | ⟨y15, q15⟩
 · have hz15 := yq hE15 hi15;simp only [zm.l15] at h
   refine rg tok [1, 3, 46, 47, 48, 49] fun K hK => ?_
   simp only [go_sem, qc, qa, hz15];apply hK
   refine za fun Z16 hZ16 => ?_
   refine zo rfl ?_;apply zy;apply hZ10
   refine za fun Z17 hZ17 => ?_
   refine rgN [1, 3, 61, 62, 63] ?_;apply ze
   refine yU 61 fun hb22 => ?_
   replace hb22 : qb a0.fEnums ≤ 9223372036854775807 := hb22.1;refine zr (fun m L τ => ∃ (p22 q22 : List GEnumeration) (x19 : Int) (l18 : List (List UInt8 × Bool)), m = qb q22 ∧ L = [(1, .op 0 0 0), (3, .mp 1), (61, .ds true (qe encGEnumeration a0.fEnums) (qb a0.fEnums) false), (62, .int .i64 (qb a0.fEnums : Int)), (63, .int .i64 x19)] ∧ τ = [.cells 0 (encGSchema a0), .map (wA AV.str AV.bool l18)] ∧ a0.fEnums = p22 ++ q22 ∧ x19 = (qb p22 : Int) ∧ zm.l22 a0 q22 x19 l18 = some r) _ ⟨[], a0.fEnums, 0, l11, rfl, rfl, rfl, rfl, rfl, h⟩ .s ?_;rintro m L τ ⟨p22, q22, x19, l18, rfl, rfl, rfl, hE22, hi22, h⟩
   rcases q22 with _ | ⟨y22, q22⟩
   · have hz22 := yq hE22 hi22;simp only [zm.l22] at h
     refine rg tok [1, 3, 61, 62, 63, 64] fun K hK => ?_
     simp only [go_sem, qc, qa, hz22];apply hK
     refine za fun Z23 hZ23 => ?_
     refine zo rfl ?_;apply zy;apply hZ17;refine rgN [1, 10] ?_;refine zV (L := [(1, .op 0 0 0), (10, .mp 2)]) (τ := [.cells 0 (encGSchema a0), .map (wA AV.str AV.bool l18), .map (wA AV.str AV.bool [])]) .s ?_
     refine za fun Z24 hZ24 => ?_
     refine rgN [1, 10, 76, 77, 78] ?_;apply ze
     refine yU 76 fun hb29 => ?_
     replace hb29 : qb a0.fMethods ≤ 9223372036854775807 := hb29.1;refine zr (fun m L τ => ∃ (p29 q29 : List GMethod) (x26 : Int) (l25 : List (List UInt8 × Bool)), m = qb q29 ∧ L = [(1, .op 0 0 0), (10, .mp 1), (76, .ds true (qe encGMethod a0.fMethods) (qb a0.fMethods) false), (77, .int .i64 (qb a0.fMethods : Int)), (78, .int .i64 x26)] ∧ τ = [.cells 0 (encGSchema a0), .map (wA AV.str AV.bool l25)] ∧ a0.fMethods = p29 ++ q29 ∧ x26 = (qb p29 : Int) ∧ zm.l29 a0 q29 x26 l25 = some r) _ ⟨[], a0.fMethods, 0, [], rfl, rfl, rfl, rfl, rfl, h⟩ (.t [0, 2] false) ?_;rintro m L τ ⟨p29, q29, x26, l25, rfl, rfl, rfl, hE29, hi29, h⟩
     rcases q29 with _ | ⟨y29, q29⟩
     · have hz29 := yq hE29 hi29;simp only [zm.l29] at h
       refine rg tok [1, 10, 76, 77, 78, 79] fun K hK => ?_
       simp only [go_sem, qc, qa, hz29];apply hK
       refine za fun Z30 hZ30 => ?_
       refine zo rfl ?_;apply zy;apply hZ24;refine rgN [2] ?_;cases h;exact rtA
     obtain ⟨hz29, hw29, hx29, hE'29, hi'29⟩ := zX hE29 hi29 hb29;simp only [zm.l29] at h
     refine rg tok [1, 10, 76, 77, 78, 79] fun K hK => ?_
     simp only [go_sem, qc, qa, hz29];apply hK
     refine za fun Z31 hZ31 => ?_
     refine zq rfl ?_;apply zd;apply hZ31
     refine za fun Z32 hZ32 => ?_
     apply ze;have f33 := E24.idxS hx29;have f34 := E24.loadS rfl rfl hx29
     refine rg tok [1, 10, 12, 76, 77, 78] fun K hK => ?_
     simp only [go_sem, qc, qf, qa, qd, encGMethod, f33, f34];apply hK
     refine rc [1, 10, 12, 14, 76, 77, 78] fun K hK => ?_
     obtain ⟨r35, hr35, h⟩ := zS h;refine rnN 3 ?_;refine clN rfl rfl rfl (zC.ev a0 y29.fIn r35 hr35 _) ?_;refine zj tok 6 ?_;simp only [go_sem, qc, qf, qa, qd, encGMessage];refine nkN hK ?_
     refine rc [1, 10, 12, 14, 16, 76, 77, 78] fun K hK => ?_
     obtain ⟨r36, hr36, h⟩ := zS h;refine rnN 3 ?_;refine clN rfl rfl rfl (zC.ev a0 y29.fOut r36 hr36 _) ?_;refine zj tok 6 ?_;simp only [go_sem, qc, qf, qa, qd, encGMessage];refine nkN hK ?_;apply ze
     refine rc [1, 10, 14, 16, 76, 77, 78, 96] fun K hK => ?_
     obtain ⟨r37, hr37, h⟩ := bind_some h;refine rnN 3 ?_;refine clN rfl rfl rfl (@id (ACalls qh 63 [.mp 1, .str y29.fName] [.cells 0 (encGSchema a0), .map (wA AV.str AV.bool l25), .cells 0 [.str y29.fName, .str y29.fIn, .str y29.fOut], .cells 0 (encGMessage r35.1), .cells 0 (encGMessage r36.1)] (fun r' σ' => r' = .bool r37.1 ∧ σ' = [.cells 0 (encGSchema a0), .map (wA AV.str AV.bool r37.2), .cells 0 [.str y29.fName, .str y29.fIn, .str y29.fOut], .cells 0 (encGMessage r35.1), .cells 0 (encGMessage r36.1)])) ((yk.ok l25 y29.fName r37 hr37).i [1])) ?_;refine rnN 2 ?_;refine nkN hK ?_;refine zn (b := (!r37.1)) rfl (fun hc38 => ?_) (fun hc38 => ?_)
     · rw [if_pos hc38] at h;refine rgN [2] ?_;cases h;exact rtA
     rw [xP hc38] at h
     refine rc [1, 10, 76, 77, 78, 102] fun K hK => ?_
     refine rnN 3 ?_;refine zh 3 (fun L τ => L = [(1, .op 0 0 0), (10, .mp 1), (76, .ds true (qe encGMethod a0.fMethods) (qb a0.fMethods) false), (77, .int .i64 (qb a0.fMethods : Int)), (78, .int .i64 x26), (108, .bool ((!r35.2) || (!r36.2)))] ∧ τ = [.cells 0 (encGSchema a0), .map (wA AV.str AV.bool r37.2), .cells 0 [.str y29.fName, .str y29.fIn, .str y29.fOut], .cells 0 (encGMessage r35.1), .cells 0 (encGMessage r36.1)]) ?_ ?_
     · refine zI (b := (!r35.2)) 105 rfl (fun hg105 => ?_) (fun hg105 => ?_)
       · refine rnN 3 ?_;refine zb ⟨rfl, _, _, ⟨rfl, rfl⟩, .b hg105⟩
       refine rnN 3 ?_;refine zb ⟨rfl, _, _, ⟨rfl, rfl⟩, .b hg105⟩
     rintro _ _ ⟨rfl, rfl⟩;refine rnN 1 ?_;refine nkN hK ?_;refine zn (b := ((!r35.2) || (!r36.2))) rfl (fun hc39 => ?_) (fun hc39 => ?_)
     · rw [if_pos hc39] at h;refine rgN [2] ?_;cases h;exact rtA
     rw [xP hc39] at h;apply zd;apply hZ32
     refine rgE tok [1, 10, 76, 77, 78] fun K hK => ?_
     simp only [go_sem, qc, qa, hw29];apply hK
     exact ⟨_, _, _, qs q29.length, ⟨p29 ++ [y29], q29, x26 + 1, r37.2, rfl, rfl, rfl, hE'29, hi'29, h⟩, (.t [0, 1] false)⟩
   obtain ⟨hz22, hw22, hx22, hE'22, hi'22⟩ := zX hE22 hi22 hb22;simp only [zm.l22] at h
   refine rg tok [1, 3, 61, 62, 63, 64] fun K hK => ?_
   simp only [go_sem, qc, qa, hz22];apply hK
   refine za fun Z40 hZ40 => ?_
   refine zq rfl ?_;apply zd;apply hZ40
   refine za fun Z41 hZ41 => ?_
   apply ze;have f42 := E23.idxS hx22;have f43 := E23.loadS rfl rfl hx22
   refine rg tok [1, 3, 8, 61, 62, 63] fun K hK => ?_
   simp only [go_sem, qc, qf, qa, qd, encGEnumeration, f42, f43];apply hK
   refine rc [1, 3, 9, 61, 62, 63] fun K hK => ?_
   obtain ⟨r44, hr44, h⟩ := bind_some h;refine rnN 2 ?_;refine clN rfl rfl rfl (@id (ACalls qh 62 [.mp 1, .agg (encGEnumeration y22)] [.cells 0 (encGSchema a0), .map (wA AV.str AV.bool l18), .cells 0 (encGEnumeration y22)] (fun r' σ' => r' = .int .i64 r44.1 ∧ σ' = [.cells 0 (encGSchema a0), .map (wA AV.str AV.bool r44.2), .cells 0 (encGEnumeration y22)])) ((yu.ok l18 y22 r44 hr44).i [1])) ?_;refine rnN 1 ?_;refine nkN hK ?_;refine rgN [1, 3, 9, 61, 62, 63, 71] ?_;refine zw rfl (fun hc45 => ?_) (fun hc45 => ?_)
   · rw [if_neg hc45] at h;have t46 := eq_false hc45
     refine rg tok [2] fun K hK => ?_
     simp only [go_sem, qc, qa, t46];apply hK
     cases h;exact rtA
   rw [if_pos hc45] at h;have t47 := eq_true hc45;apply zd;apply hZ41
   refine rgE tok [1, 3, 61, 62, 63] fun K hK => ?_
   simp only [go_sem, qc, qa, hw22, t47];apply hK
   exact ⟨_, _, _, qs q22.length, ⟨p22 ++ [y22], q22, x19 + 1, r44.2, rfl, rfl, rfl, hE'22, hi'22, h⟩, (.t [0, 1] false)⟩
 obtain ⟨hz15, hw15, hx15, hE'15, hi'15⟩ := zX hE15 hi15 hb15;simp only [zm.l15] at h
 refine rg tok [1, 3, 46, 47, 48, 49] fun K hK => ?_
 simp only [go_sem, qc, qa, hz15];apply hK
 refine za fun Z48 hZ48 => ?_
 refine zq rfl ?_;apply zd;apply hZ48
 refine za fun Z49 hZ49 => ?_
 apply ze;have f50 := E22.idxS hx15;have f51 := E22.loadS rfl rfl hx15
 refine rg tok [1, 3, 5, 46, 47, 48] fun K hK => ?_
 simp only [go_sem, qc, qf, qa, qd, encGMessage, f50, f51];apply hK
 refine rc [1, 3, 6, 46, 47, 48] fun K hK => ?_
 obtain ⟨r52, hr52, h⟩ := bind_some h;refine rnN 3 ?_;refine clN rfl rfl rfl (@id (ACalls qh 61 [.agg (encGSchema a0), .mp 1, .agg (encGMessage y15)] [.cells 0 (encGSchema a0), .map (wA AV.str AV.bool l11), .cells 0 (encGMessage y15)] (fun r' σ' => r' = .int .i64 r52.1 ∧ σ' = [.cells 0 (encGSchema a0), .map (wA AV.str AV.bool r52.2), .cells 0 (encGMessage y15)])) ((zG.ok a0 l11 y15 r52 hr52).i [1])) ?_;refine rnN 1 ?_;refine nkN hK ?_;refine rgN [1, 3, 6, 46, 47, 48, 57] ?_;refine zw rfl (fun hc53 => ?_) (fun hc53 => ?_)
 · rw [if_neg hc53] at h;have t54 := eq_false hc53
   refine rg tok [2] fun K hK => ?_
   simp only [go_sem, qc, qa, t54];apply hK
   cases h;exact rtA
 rw [if_pos hc53] at h;have t55 := eq_true hc53;apply zd;apply hZ49
 refine rgE tok [1, 3, 46, 47, 48] fun K hK => ?_
 simp only [go_sem, qc, qa, hw15, t55];apply hK
 exact ⟨_, _, _, qs q15.length, ⟨p15 ++ [y15], q15, x12 + 1, r52.2, rfl, rfl, rfl, hE'15, hi'15, h⟩, (.t [0, 1] false)⟩
theorem zm.ev (a0 : GSchema) (r : Int) (h : zm a0 = some r) (σ : Store) : ACalls qh 39 [.agg (encGSchema a0)] σ (fun r' σ' => r' = .int .i64 r ∧ σ' = σ) :=
 (zm.ok a0 r h).c σ
def xX (a0 : GSchema) (a1 : List UInt8) (a2 : List UInt8) : Option (GTree × Int) :=
 (zm a0).bind fun r2 => (if r2 = 0 then bnd (zC a0 a1) fun r6 => (if (!r6.2) = true then some ((⟨0, 0, [], ([] : List GEntry), ([] : List GRaw)⟩ : GTree), 14) else (zz rounds a0 r6.1 a2 1).bind fun r9 => some (r9.1, r9.2)) else some ((⟨0, 0, [], ([] : List GEntry), ([] : List GRaw)⟩ : GTree), 1))
theorem xX.ok (a0 : GSchema) (a1 : List UInt8) (a2 : List UInt8) (r : GTree × Int) (h : xX a0 a1 a2 = some r) : ACalls qh 16 [.agg (encGSchema a0), .str a1, .ds true (qe encB a2) (qb a2) false] [] (fun r' _ => r' = .tup [.agg (cellsGTree r.1), .int .i64 r.2]) := by
 refine zf (rs := [.cell 6 30, .tmp 7]) tok Tryz.func16 rfl Tryz.ntmps16 rfl Tryz.call16 (by simp) ?_;refine zl [(0, .agg (encGSchema a0)), (1, .str a1), (2, .ds true (qe encB a2) (qb a2) false)] ⟨rfl, rfl, rfl, trivial⟩ ?_;unfold xX at h
 refine rg tok [1, 2, 3, 6] fun K hK => ?_
 simp only [go_sem, qc, qa, qd, reduceCtorEq, encGSchema];apply hK
 refine za fun Z1 hZ1 => ?_
 refine rc [1, 2, 3, 6, 12] fun K hK => ?_
 obtain ⟨r2, hr2, h⟩ := bind_some h;refine rnN 1 ?_;refine clN rfl rfl rfl (zm.ev a0 r2 hr2 _) ?_;refine rnN 1 ?_;refine nkN hK ?_;refine zw rfl (fun hc3 => ?_) (fun hc3 => ?_)
 · rw [if_neg hc3] at h;have t4 := eq_false hc3
   refine rg tok [6, 7] fun K hK => ?_
   simp only [go_sem, qc, qf, qa, qd, t4];apply hK
   cases h;exact rtA
 rw [if_pos hc3] at h;have t5 := eq_true hc3;apply zd;apply hZ1
 refine rc [2, 3, 6, 8, 9] fun K hK => ?_
 obtain ⟨r6, hr6, h⟩ := zS h;refine zj tok 2 ?_;simp only [go_sem, qc, qf, qa, qd, t5];refine clN rfl rfl rfl (zC.ev a0 a1 r6 hr6 _) ?_;refine zj tok 6 ?_;simp only [go_sem, qc, qf, qa, qd, encGMessage];refine nkN hK ?_
 refine za fun Z7 hZ7 => ?_
 refine rgN [2, 3, 6, 8, 21] ?_;refine zn (b := (!r6.2)) rfl (fun hc8 => ?_) (fun hc8 => ?_)
 · rw [if_pos hc8] at h;refine rgN [6, 7] ?_;cases h;exact rtA
 rw [xP hc8] at h;apply zd;apply hZ7
 refine rc [6, 7] fun K hK => ?_
 obtain ⟨r9, hr9, h⟩ := bind_some h;refine rnN 3 ?_;refine clN rfl rfl rfl (zz.ev rounds a0 r6.1 a2 1 r9 hr9 _) ?_;refine zj tok 4 ?_;simp only [go_sem, qc, qf, qa, qd, cellsGTree];refine nkN hK ?_;cases h;exact rtA
theorem xX.ev (a0 : GSchema) (a1 : List UInt8) (a2 : List UInt8) (r : GTree × Int) (h : xX a0 a1 a2 = some r) (σ : Store) : ACalls qh 16 [.agg (encGSchema a0), .str a1, .ds true (qe encB a2) (qb a2) false] σ (fun r' σ' => r' = .tup [.agg (cellsGTree r.1), .int .i64 r.2] ∧ σ' = σ) :=
 (xX.ok a0 a1 a2 r h).c σ
def zY.l20 (y5 : GTree → Int → Option Int) (a1 : Int) (x7 : Int) (rec10 : Int → Int → Option Int) : List GTree → Int → Int → Option Int
 | [], x17, x16 => (rec10 (x7 + 1) x16)
 | y20 :: q20, x17, x16 => (y5 y20 (IntKind.i64.wrap (a1 - 1))).bind fun r26 => ((zY.l20 y5 a1 x7 rec10 q20) (x17 + 1) (if x16 < r26 then r26 else x16))
def zY.l10 (y5 : GTree → Int → Option Int) (a1 : Int) : List GEntry → Int → Int → Option Int
 | [], x7, x6 => some (IntKind.i64.wrap (x6 + 1))
 | y10 :: q10, x7, x6 => (zY.l20 y5 a1 x7 (zY.l10 y5 a1 q10) y10.fTrees 0 x6)
def zY.body (y5 : GTree → Int → Option Int) (a0 : GTree) (a1 : Int) : Option Int :=
 (if ((!(decide (a0.fKind = 3))) || (decide (a1 = 0))) = true then some 0 else (zY.l10 y5 a1 a0.fEntries 0 0))
theorem zY.step (y5 : GTree → Int → Option Int) (ih_value_deep : ∀ (a0 : GTree) (a1 : Int) (r : Int), y5 a0 a1 = some r → ACalls qh 152 [.agg (cellsGTree a0), .int .i64 a1] [] (fun r' _ => r' = .int .i64 r)) (a0 : GTree) (a1 : Int) (r : Int) (h : zY.body y5 a0 a1 = some r) : ACalls qh 152 [.agg (cellsGTree a0), .int .i64 a1] [] (fun r' _ => r' = .int .i64 r) := by
 have ev_value_deep := fun a0 a1 r h σ => (ih_value_deep a0 a1 r h).c σ
 refine zf (rs := [.tmp 4]) tok Tryz.func152 rfl Tryz.ntmps152 rfl Tryz.call152 (by simp) ?_;refine zl [(0, .agg (cellsGTree a0)), (1, .int .i64 a1)] ⟨rfl, rfl, trivial⟩ ?_;unfold zY.body at h
 refine rg tok [1, 2] fun K hK => ?_
 simp only [go_sem, qc, qa, qd, reduceCtorEq, cellsGTree];apply hK
 refine za fun Z1 hZ1 => ?_
 refine rc [1, 2, 16] fun K hK => ?_
 refine rnN 4 ?_;refine zh 3 (fun L τ => L = [(1, .int .i64 a1), (2, .op 0 0 0), (16, .bool ((!(decide (a0.fKind = 3))) || (decide (a1 = 0))))] ∧ τ = [.cells 0 (cellsGTree a0)]) ?_ ?_
 · refine yF 13 rfl (fun hg13 => ?_) (fun hg13 => ?_)
   · have t2 := eq_false hg13;refine rnN 3 ?_;refine zb ⟨rfl, _, _, ⟨rfl, rfl⟩, .p t2⟩
   have t3 := eq_true hg13;refine rnN 3 ?_;refine zb ⟨rfl, _, _, ⟨rfl, rfl⟩, .p t3⟩
 rintro _ _ ⟨rfl, rfl⟩;refine nkN hK ?_;refine zn (b := ((!(decide (a0.fKind = 3))) || (decide (a1 = 0)))) rfl (fun hc4 => ?_) (fun hc4 => ?_)
 · rw [if_pos hc4] at h;refine rgN [4] ?_;cases h;exact rtA
 rw [xP hc4] at h;apply zd;apply hZ1;refine rgN [1, 2, 5] ?_
 refine za fun Z5 hZ5 => ?_
 refine rgN [1, 5, 18, 19, 20] ?_;apply ze
 refine yU 18 fun hb10 => ?_
 replace hb10 : qb a0.fEntries ≤ 9223372036854775807 := hb10.1;refine zr (fun m L τ => ∃ (p10 q10 : List GEntry) (x7 : Int) (x6 : Int), m = qb q10 ∧ L = [(1, .int .i64 a1), (5, .int .i64 x6), (18, .ds true (qe encGEntry a0.fEntries) (qb a0.fEntries) false), (19, .int .i64 (qb a0.fEntries : Int)), (20, .int .i64 x7)] ∧ τ = [] ∧ a0.fEntries = p10 ++ q10 ∧ x7 = (qb p10 : Int) ∧ zY.l10 y5 a1 q10 x7 x6 = some r) _ ⟨[], a0.fEntries, 0, 0, rfl, rfl, rfl, rfl, rfl, h⟩ (.t [] false) ?_;rintro m L τ ⟨p10, q10, x7, x6, rfl, rfl, rfl, hE10, hi10, h⟩
 rcases q10 with _ | ⟨y10, q10⟩
 · have hz10 := yq hE10 hi10;simp only [zY.l10] at h
   refine rg tok [1, 5, 18, 19, 20, 21] fun K hK => ?_
   simp only [go_sem, qc, qa, hz10];apply hK
   refine za fun Z11 hZ11 => ?_
   refine zo rfl ?_;apply zy;apply hZ5;refine rgN [4] ?_;cases h;exact rtA
 obtain ⟨hz10, hw10, hx10, hE'10, hi'10⟩ := zX hE10 hi10 hb10;simp only [zY.l10] at h
 refine rg tok [1, 5, 18, 19, 20, 21] fun K hK => ?_
 simp only [go_sem, qc, qa, hz10];apply hK
 refine za fun Z12 hZ12 => ?_
 refine zq rfl ?_;apply zd;apply hZ12
 refine za fun Z13 hZ13 => ?_
 apply ze;have f14 := E27.idxS hx10;have f15 := E27.loadS rfl rfl hx10
 refine rg tok [1, 5, 7, 18, 19, 20] fun K hK => ?_
 simp only [go_sem, qc, qf, qa, qd, cellsGEntry, yg, f14, f15];apply hK
 refine rgN [1, 5, 18, 19, 20, 25, 26, 27] ?_;apply ze
 refine yU 25 fun hb20 => ?_
 replace hb20 : qb y10.fTrees ≤ 9223372036854775807 := hb20.1;refine zr (fun m L τ => ∃ (p20 q20 : List GTree) (x17 : Int) (x16 : Int), m = qb q20 ∧ L = [(1, .int .i64 a1), (5, .int .i64 x16), (18, .ds true (qe encGEntry a0.fEntries) (qb a0.fEntries) false), (19, .int .i64 (qb a0.fEntries : Int)), (20, .int .i64 x7), (25, .ds true (qe encGTree y10.fTrees) (qb y10.fTrees) false), (26, .int .i64 (qb y10.fTrees : Int)), (27, .int .i64 x17)] ∧ τ = [] ∧ y10.fTrees = p20 ++ q20 ∧ x17 = (qb p20 : Int) ∧ zY.l20 y5 a1 x7 (zY.l10 y5 a1 q10) q20 x17 x16 = some r) _ ⟨[], y10.fTrees, 0, x6, rfl, rfl, rfl, rfl, rfl, h⟩ (.t [] false) ?_;rintro m L τ ⟨p20, q20, x17, x16, rfl, rfl, rfl, hE20, hi20, h⟩
 rcases q20 with _ | ⟨y20, q20⟩
 · have hz20 := yq hE20 hi20;simp only [zY.l20] at h
   refine rg tok [1, 5, 18, 19, 20, 25, 26, 27, 28] fun K hK => ?_
   simp only [go_sem, qc, qa, hz20];apply hK
   refine za fun Z21 hZ21 => ?_
   refine zo rfl ?_;apply zy;apply hZ13
   refine rgE tok [1, 5, 18, 19, 20] fun K hK => ?_
   simp only [go_sem, qc, qa, hw10];apply hK
   exact ⟨_, _, _, qs q10.length, ⟨p10 ++ [y10], q10, x7 + 1, x16, rfl, rfl, rfl, hE'10, hi'10, h⟩, .s⟩
 obtain ⟨hz20, hw20, hx20, hE'20, hi'20⟩ := zX hE20 hi20 hb20;simp only [zY.l20] at h
 refine rg tok [1, 5, 18, 19, 20, 25, 26, 27, 28] fun K hK => ?_
 simp only [go_sem, qc, qa, hz20];apply hK
 refine za fun Z22 hZ22 => ?_
 refine zq rfl ?_;apply zd;apply hZ22
 refine za fun Z23 hZ23 => ?_
 apply ze;have f24 := E90.idxS hx20;have f25 := E90.loadS rfl rfl hx20
 refine rg tok [1, 5, 9, 18, 19, 20, 25, 26, 27] fun K hK => ?_
 simp only [go_sem, qc, qf, qa, qd, cellsGTree, yp, f24, f25];apply hK
 refine rcE [1, 5, 18, 19, 20, 25, 26, 27] fun K hK => ?_
 obtain ⟨r26, hr26, h⟩ := bind_some h;refine rnN 4 ?_;refine clN rfl rfl rfl (ev_value_deep y20 (IntKind.i64.wrap (a1 - 1)) r26 hr26 _) ?_;refine zj tok 2 ?_;simp only [go_sem, qc, qa, vaj, foldO, vb1];refine nkN hK ?_;apply hZ23
 refine rgE tok [1, 5, 18, 19, 20, 25, 26, 27] fun K hK => ?_
 simp only [go_sem, qc, qa, hw20];apply hK
 exact ⟨_, _, _, qs q20.length, ⟨p20 ++ [y20], q20, x17 + 1, (if x16 < r26 then r26 else x16), rfl, rfl, rfl, hE'20, hi'20, h⟩, (.t [] false)⟩
def zY : Nat → GTree → Int → Option Int
 | 0, _, _ => none
 | k + 1, a0, a1 => zY.body (zY k) a0 a1
theorem zY.all (k : Nat) : (∀ (a0 : GTree) (a1 : Int) (r : Int), zY k a0 a1 = some r → ACalls qh 152 [.agg (cellsGTree a0), .int .i64 a1] [] (fun r' _ => r' = .int .i64 r)) := by
 induction k with
 | zero => exact (fun a0 a1 r h => by simp only [zY] at h; cases h)
 | succ k ih => exact (fun a0 a1 r h => zY.step _ ih a0 a1 r (by simpa only [zY] using h))
theorem zY.ev (k : Nat) (a0 : GTree) (a1 : Int) (r : Int) (h : zY k a0 a1 = some r) (σ : Store) : ACalls qh 152 [.agg (cellsGTree a0), .int .i64 a1] σ (fun r' σ' => r' = .int .i64 r ∧ σ' = σ) :=
 ((zY.all k) a0 a1 r h).c σ
def wC (a0 : GTree) : Option Int :=
 (zY rounds a0 101).bind fun r1 => some r1
theorem wC.ok (a0 : GTree) (r : Int) (h : wC a0 = some r) : ACalls qh 131 [.agg (cellsGTree a0)] [] (fun r' _ => r' = .int .i64 r) := by
 refine zf (rs := [.tmp 2]) tok Tryz.func131 rfl Tryz.ntmps131 rfl Tryz.call131 (by simp) ?_;refine zl [(0, .agg (cellsGTree a0))] ⟨rfl, trivial⟩ ?_;unfold wC at h
 refine rg tok [1] fun K hK => ?_
 simp only [go_sem, qc, qa, qd, reduceCtorEq, cellsGTree];apply hK
 refine rc [2] fun K hK => ?_
 obtain ⟨r1, hr1, h⟩ := bind_some h;refine rnN 1 ?_;refine clN rfl rfl rfl (zY.ev rounds a0 101 r1 hr1 _) ?_;refine rnN 1 ?_;refine nkN hK ?_;cases h;exact rtA
theorem wC.ev (a0 : GTree) (r : Int) (h : wC a0 = some r) (σ : Store) : ACalls qh 131 [.agg (cellsGTree a0)] σ (fun r' σ' => r' = .int .i64 r ∧ σ' = σ) :=
 (wC.ok a0 r h).c σ
def ym (a0 : GRaw) : Bool :=
 (if ((decide (a0.fTag < 1)) || (decide (500 < a0.fTag))) = true then false else (if a0.fWire = 0 then decide (a0.fB = []) else (if a0.fWire = 1 then ((decide (a0.fN = 0)) && (decide ((qb a0.fB : Int) ≤ 4096))) else false)))
theorem ym.ok (a0 : GRaw) (r : Bool) (h : ym a0 = r) : ACalls qh 51 [.agg (encGRaw a0)] [] (fun r' _ => r' = .bool r) := by
 refine zf (rs := [.tmp 2]) tok Tryz.func51 rfl Tryz.ntmps51 rfl Tryz.call51 (by simp) ?_;refine zl [(0, .agg (encGRaw a0))] ⟨rfl, trivial⟩ ?_;unfold ym at h
 refine rg tok [1] fun K hK => ?_
 simp only [go_sem, qc, qa, qd, reduceCtorEq, encGRaw];apply hK
 refine za fun Z1 hZ1 => ?_
 refine rc [1, 10] fun K hK => ?_
 refine rnN 4 ?_;refine zh 4 (fun L τ => L = [(1, .op 0 0 0), (10, .bool ((decide (a0.fTag < 1)) || (decide (500 < a0.fTag))))] ∧ τ = [.cells 0 [.int .i64 a0.fTag, .int .i64 a0.fWire, .int .i64 a0.fN, .str a0.fB]]) ?_ ?_
 · refine yF 6 rfl (fun hg6 => ?_) (fun hg6 => ?_)
   · have t2 := eq_true hg6;refine rnN 4 ?_;refine zb ⟨rfl, _, _, ⟨rfl, rfl⟩, .p t2⟩
   have t3 := eq_false hg6;refine rnN 4 ?_;refine zb ⟨rfl, _, _, ⟨rfl, rfl⟩, .p t3⟩
 rintro _ _ ⟨rfl, rfl⟩;refine nkN hK ?_;refine zn (b := ((decide (a0.fTag < 1)) || (decide (500 < a0.fTag)))) rfl (fun hc4 => ?_) (fun hc4 => ?_)
 · rw [if_pos hc4] at h;refine rgN [2] ?_;cases h;exact rtA
 rw [xP hc4] at h;apply zd;apply hZ1
 refine za fun Z5 hZ5 => ?_
 refine rgN [1, 12] ?_;apply ze;refine rgN [1, 12, 13] ?_;refine zw rfl (fun hc6 => ?_) (fun hc6 => ?_)
 · rw [if_pos hc6] at h;have t7 := eq_true hc6
   refine rg tok [2] fun K hK => ?_
   simp only [go_sem, qc, qa, qd, t7];apply hK
   cases h;exact rtA
 rw [if_neg hc6] at h;have t8 := eq_false hc6
 refine rg tok [1, 18] fun K hK => ?_
 simp only [go_sem, qc, qa, t8];apply hK
 refine zw rfl (fun hc9 => ?_) (fun hc9 => ?_)
 · rw [if_pos hc9] at h;have t10 := eq_true hc9
   refine rc [2] fun K hK => ?_
   refine zj tok 4 ?_;simp only [go_sem, qc, qa, qd, t10];refine zh 5 (fun L τ => L = [(28, .bool ((decide (a0.fN = 0)) && (decide ((qb a0.fB : Int) ≤ 4096))))] ∧ τ = [.cells 0 [.int .i64 a0.fTag, .int .i64 a0.fWire, .int .i64 a0.fN, .str a0.fB]]) ?_ ?_
   · refine yF 23 rfl (fun hg23 => ?_) (fun hg23 => ?_)
     · have t11 := eq_true hg23;refine rnN 5 ?_;refine zb ⟨rfl, _, _, ⟨rfl, rfl⟩, .p t11⟩
     have t12 := eq_false hg23;refine rnN 5 ?_;refine zb ⟨rfl, _, _, ⟨rfl, rfl⟩, .p t12⟩
   rintro _ _ ⟨rfl, rfl⟩;refine rnN 1 ?_;refine nkN hK ?_;cases h;exact rtA
 rw [if_neg hc9] at h;have t13 := eq_false hc9;apply zd;apply hZ5
 refine rg tok [2] fun K hK => ?_
 simp only [go_sem, qc, qa, t13];apply hK
 cases h;exact rtA
theorem ym.ev (a0 : GRaw) (r : Bool) (h : ym a0 = r) (σ : Store) : ACalls qh 51 [.agg (encGRaw a0)] σ (fun r' σ' => r' = .bool r ∧ σ' = σ) :=
 (ym.ok a0 r h).c σ
def yZ.l4 (a0 : List GRaw) : Nat → Int → Option Bool
 | 0, _ => none
 | k4 + 1, x2 => (if x2 < (qb a0 : Int) then (Zb a0 x2).bind fun y9 => (Zb a0 (IntKind.i64.wrap (x2 - 1))).bind fun y12 => (if y9.fTag < y12.fTag then some false else ((yZ.l4 a0 k4) (IntKind.i64.wrap (x2 + 1)))) else some true)
def yZ (a0 : List GRaw) : Option Bool :=
 (yZ.l4 a0 rounds 1)
theorem yZ.ok (a0 : List GRaw) (r : Bool) (h : yZ a0 = some r) : ACalls qh 159 [.ds true (qe encGRaw a0) (qb a0) false] [] (fun r' _ => r' = .bool r) := by
 refine zf (rs := [.tmp 2]) tok Tryz.func159 rfl Tryz.ntmps159 rfl Tryz.call159 (by simp) ?_;refine zl [(0, .ds true (qe encGRaw a0) (qb a0) false)] ⟨rfl, trivial⟩ ?_;unfold yZ at h;refine rgN [0] ?_
 refine za fun Z1 hZ1 => ?_
 refine rgN [0, 3] ?_;apply ze;refine zr (fun m L τ => ∃ (k4 : Nat) (x2 : Int), m = 0 + k4 ∧ L = [(0, .ds true (qe encGRaw a0) (qb a0) false), (3, .int .i64 x2)] ∧ τ = [] ∧ yZ.l4 a0 k4 x2 = some r) _ ⟨rounds, 1, rfl, rfl, rfl, h⟩ .s ?_;rintro m L τ ⟨k4, x2, rfl, rfl, rfl, h⟩
 rcases k4 with _ | k4
 · cases h
 simp only [yZ.l4] at h
 refine za fun Z5 hZ5 => ?_
 refine rgN [0, 3, 7] ?_;refine zw rfl (fun hc6 => ?_) (fun hc6 => ?_)
 · rw [if_pos hc6] at h;have t7 := eq_true hc6;apply zd;apply hZ5
   refine za fun Z8 hZ8 => ?_
   apply ze;obtain ⟨y9, hy9, h⟩ := bind_some h;have f10 := E28.idxS hy9;have f11 := E28.fldS0 (f := 3) rfl rfl hy9;obtain ⟨y12, hy12, h⟩ := bind_some h;have f13 := E28.idxS hy12;have f14 := E28.fldS0 (f := 3) rfl rfl hy12
   refine rd [0, 3, 21] fun K hK => ?_
   refine DW.start (T := tab) [.any, .any, .any, .any, .at [], .any, .any, .any, .any, .any, .at [], .any] [] ?_;refine DW.runN tok 8 ?_;simp only [go_sem, qc, qa, reduceCtorEq, encGRaw, t7, f10, f11];refine DW.runN tok 4 ?_;simp only [go_sem, qc, qa, reduceCtorEq, encGRaw, f13, f14];refine DW.fin tok (by decide +kernel) rfl ?_;simp only [zp, upd, qa, reduceIte, yP, xG];apply hK
   refine zw rfl (fun hc15 => ?_) (fun hc15 => ?_)
   · rw [if_pos hc15] at h;have t16 := eq_true hc15
     refine rg tok [2] fun K hK => ?_
     simp only [go_sem, qc, qa, reduceCtorEq, t16];apply hK
     cases h;exact rtA
   rw [if_neg hc15] at h;have t17 := eq_false hc15;apply zd;apply hZ8
   refine rgE tok [0, 3] fun K hK => ?_
   simp only [go_sem, qc, qa, reduceCtorEq, t17];apply hK
   exact ⟨_, _, _, qs (0 + k4), ⟨k4, IntKind.i64.wrap (x2 + 1), rfl, rfl, rfl, h⟩, .s⟩
 rw [if_neg hc6] at h;have t18 := eq_false hc6;apply zy;apply hZ1
 refine rg tok [2] fun K hK => ?_
 simp only [go_sem, qc, qa, reduceCtorEq, t18];apply hK
 cases h;exact rtA
theorem yZ.ev (a0 : List GRaw) (r : Bool) (h : yZ a0 = some r) (σ : Store) : ACalls qh 159 [.ds true (qe encGRaw a0) (qb a0) false] σ (fun r' σ' => r' = .bool r ∧ σ' = σ) :=
 (yZ.ok a0 r h).c σ
def yG.l16 (x2 : Int) (rec4 : Int → Option Bool) (y4 : GRaw) : List GEntry → Int → Option Bool
 | [], x14 => (rec4 (x2 + 1))
 | y16 :: q16, x14 => (if y16.fTag = y4.fTag then some false else ((yG.l16 x2 rec4 y4 q16) (x14 + 1)))
def yG.l4 (a0 : GTree) : List GRaw → Int → Option Bool
 | [], x2 => (yZ a0.fRest).bind fun r6 => some r6
 | y4 :: q4, x2 => bnd (ym y4) fun r12 => (if (!r12) = true then some false else (yG.l16 x2 (yG.l4 a0 q4) y4 a0.fEntries 0))
def yG (a0 : GTree) : Option Bool :=
 (yG.l4 a0 a0.fRest 0)
theorem yG.ok (a0 : GTree) (r : Bool) (h : yG a0 = some r) : ACalls qh 154 [.agg (cellsGTree a0)] [] (fun r' _ => r' = .bool r) := by
 refine zf (rs := [.tmp 2]) tok Tryz.func154 rfl Tryz.ntmps154 rfl Tryz.call154 (by simp) ?_;refine zl [(0, .agg (cellsGTree a0))] ⟨rfl, trivial⟩ ?_;unfold yG at h
 refine rg tok [1] fun K hK => ?_
 simp only [go_sem, qc, qa, qd, reduceCtorEq, cellsGTree];apply hK
 refine za fun Z1 hZ1 => ?_
 refine rgN [1, 8, 9, 10] ?_;apply ze
 refine yU 8 fun hb4 => ?_
 replace hb4 : qb a0.fRest ≤ 9223372036854775807 := hb4.1;refine zr (fun m L τ => ∃ (p4 q4 : List GRaw) (x2 : Int), m = qb q4 ∧ L = [(1, .op 0 0 0), (8, .ds true (qe encGRaw a0.fRest) (qb a0.fRest) false), (9, .int .i64 (qb a0.fRest : Int)), (10, .int .i64 x2)] ∧ τ = [.cells 0 (cellsGTree a0)] ∧ a0.fRest = p4 ++ q4 ∧ x2 = (qb p4 : Int) ∧ yG.l4 a0 q4 x2 = some r) _ ⟨[], a0.fRest, 0, rfl, rfl, rfl, rfl, rfl, h⟩ .s ?_;rintro m L τ ⟨p4, q4, x2, rfl, rfl, rfl, hE4, hi4, h⟩
 rcases q4 with _ | ⟨y4, q4⟩
 · have hz4 := yq hE4 hi4;simp only [yG.l4] at h
   refine rg tok [1, 8, 9, 10, 11] fun K hK => ?_
   simp only [go_sem, qc, qa, hz4];apply hK
   refine za fun Z5 hZ5 => ?_
   refine zo rfl ?_;apply zy;apply hZ1
   refine rc [2] fun K hK => ?_
   obtain ⟨r6, hr6, h⟩ := bind_some h;refine rnN 2 ?_;refine clN rfl rfl rfl (yZ.ev a0.fRest r6 hr6 _) ?_;refine rnN 1 ?_;refine nkN hK ?_;cases h;exact rtA
 obtain ⟨hz4, hw4, hx4, hE'4, hi'4⟩ := zX hE4 hi4 hb4;simp only [yG.l4] at h
 refine rg tok [1, 8, 9, 10, 11] fun K hK => ?_
 simp only [go_sem, qc, qa, hz4];apply hK
 refine za fun Z7 hZ7 => ?_
 refine zq rfl ?_;apply zd;apply hZ7
 refine za fun Z8 hZ8 => ?_
 apply ze;have f9 := E28.idxS hx4;have f10 := E28.loadS rfl rfl hx4
 refine rg tok [1, 4, 8, 9, 10] fun K hK => ?_
 simp only [go_sem, qc, qf, qa, qd, encGRaw, f9, f10];apply hK
 refine za fun Z11 hZ11 => ?_
 refine rc [1, 4, 8, 9, 10, 16] fun K hK => ?_
 obtain ⟨r12, hr12, h⟩ := zS h;refine rnN 1 ?_;refine clN rfl rfl rfl (ym.ev y4 r12 hr12 _) ?_;refine rnN 1 ?_;refine nkN hK ?_;refine zn (b := (!r12)) rfl (fun hc13 => ?_) (fun hc13 => ?_)
 · rw [if_pos hc13] at h;refine rgN [2] ?_;cases h;exact rtA
 rw [xP hc13] at h;apply zd;apply hZ11;refine rgN [1, 4, 8, 9, 10, 18, 19, 20] ?_;apply ze
 refine yU 18 fun hb16 => ?_
 replace hb16 : qb a0.fEntries ≤ 9223372036854775807 := hb16.1;refine zr (fun m L τ => ∃ (p16 q16 : List GEntry) (x14 : Int), m = qb q16 ∧ L = [(1, .op 0 0 0), (4, .op 1 0 0), (8, .ds true (qe encGRaw a0.fRest) (qb a0.fRest) false), (9, .int .i64 (qb a0.fRest : Int)), (10, .int .i64 x2), (18, .ds true (qe encGEntry a0.fEntries) (qb a0.fEntries) false), (19, .int .i64 (qb a0.fEntries : Int)), (20, .int .i64 x14)] ∧ τ = [.cells 0 (cellsGTree a0), .cells 0 [.int .i64 y4.fTag, .int .i64 y4.fWire, .int .i64 y4.fN, .str y4.fB]] ∧ a0.fEntries = p16 ++ q16 ∧ x14 = (qb p16 : Int) ∧ yG.l16 x2 (yG.l4 a0 q4) y4 q16 x14 = some r) _ ⟨[], a0.fEntries, 0, rfl, rfl, rfl, rfl, rfl, h⟩ .s ?_;rintro m L τ ⟨p16, q16, x14, rfl, rfl, rfl, hE16, hi16, h⟩
 rcases q16 with _ | ⟨y16, q16⟩
 · have hz16 := yq hE16 hi16;simp only [yG.l16] at h
   refine rg tok [1, 4, 8, 9, 10, 18, 19, 20, 21] fun K hK => ?_
   simp only [go_sem, qc, qa, hz16];apply hK
   refine za fun Z17 hZ17 => ?_
   refine zo rfl ?_;apply zy;apply hZ8
   refine rgE tok [1, 8, 9, 10] fun K hK => ?_
   simp only [go_sem, qc, qa, hw4];apply hK
   exact ⟨_, _, _, qs q4.length, ⟨p4 ++ [y4], q4, x2 + 1, rfl, rfl, rfl, hE'4, hi'4, h⟩, (.t [0] false)⟩
 obtain ⟨hz16, hw16, hx16, hE'16, hi'16⟩ := zX hE16 hi16 hb16;simp only [yG.l16] at h
 refine rg tok [1, 4, 8, 9, 10, 18, 19, 20, 21] fun K hK => ?_
 simp only [go_sem, qc, qa, hz16];apply hK
 refine za fun Z18 hZ18 => ?_
 refine zq rfl ?_;apply zd;apply hZ18
 refine za fun Z19 hZ19 => ?_
 apply ze;have f20 := E27.idxS hx16;have f21 := E27.loadS rfl rfl hx16
 refine rg tok [1, 4, 6, 8, 9, 10, 18, 19, 20] fun K hK => ?_
 simp only [go_sem, qc, qf, qa, qd, cellsGEntry, yg, f20, f21];apply hK
 refine rgN [1, 4, 8, 9, 10, 18, 19, 20, 28] ?_;refine zw rfl (fun hc22 => ?_) (fun hc22 => ?_)
 · rw [if_pos hc22] at h;have t23 := eq_true hc22
   refine rg tok [2] fun K hK => ?_
   simp only [go_sem, qc, qa, t23];apply hK
   cases h;exact rtA
 rw [if_neg hc22] at h;have t24 := eq_false hc22;apply zd;apply hZ19
 refine rgE tok [1, 4, 8, 9, 10, 18, 19, 20] fun K hK => ?_
 simp only [go_sem, qc, qa, hw16, t24];apply hK
 exact ⟨_, _, _, qs q16.length, ⟨p16 ++ [y16], q16, x14 + 1, rfl, rfl, rfl, hE'16, hi'16, h⟩, (.t [0, 1] false)⟩
theorem yG.ev (a0 : GTree) (r : Bool) (h : yG a0 = some r) (σ : Store) : ACalls qh 154 [.agg (cellsGTree a0)] σ (fun r' σ' => r' = .bool r ∧ σ' = σ) :=
 (yG.ok a0 r h).c σ
def zx.j25 (x16 : Int) (rec18 : Int → Option Bool) (x24 : Bool) : Option Bool :=
 (if x24 = true then some false else (rec18 (x16 + 1)))
def zx.l18 (ya : GTree → Option Bool) (x3 : Int) (rec6 : Int → Int → Option Bool) (y6 : GEntry) : List GTree → Int → Option Bool
 | [], x16 => (rec6 (x3 + 1) y6.fTag)
 | y18 :: q18, x16 => (Zb y6.fTrees 0).bind fun y27 => (if y18.fKind = y27.fKind then (ya y18).bind fun r32 => (zx.j25 x16 (zx.l18 ya x3 rec6 y6 q18) (!r32)) else (zx.j25 x16 (zx.l18 ya x3 rec6 y6 q18) true))
def zx.l6 (ya : GTree → Option Bool) : List GEntry → Int → Int → Option Bool
 | [], x3, x2 => some true
 | y6 :: q6, x3, x2 => (if ((((decide (y6.fTag ≤ x2)) || (decide (500 < y6.fTag))) || (decide ((qb y6.fTrees : Int) < 1))) || (decide (64 < (qb y6.fTrees : Int)))) = true then some false else (zx.l18 ya x3 (zx.l6 ya q6) y6 y6.fTrees 0))
def zx.body (xD : GTree → Option Bool) (ya : GTree → Option Bool) (a0 : GTree) : Option Bool :=
 (zx.l6 ya a0.fEntries 0 0)
theorem zx.step (xD : GTree → Option Bool) (ya : GTree → Option Bool) (ZV : ∀ (a0 : GTree) (r : Bool), xD a0 = some r → ACalls qh 153 [.agg (cellsGTree a0)] [] (fun r' _ => r' = .bool r)) (Yv : ∀ (a0 : GTree) (r : Bool), ya a0 = some r → ACalls qh 132 [.agg (cellsGTree a0)] [] (fun r' _ => r' = .bool r)) (a0 : GTree) (r : Bool) (h : zx.body xD ya a0 = some r) : ACalls qh 153 [.agg (cellsGTree a0)] [] (fun r' _ => r' = .bool r) := by
 have ev_value_entries := fun a0 r h σ => (ZV a0 r h).c σ
 have ev_value_right := fun a0 r h σ => (Yv a0 r h).c σ
 refine zf (rs := [.tmp 2]) tok Tryz.func153 rfl Tryz.ntmps153 rfl Tryz.call153 (by simp) ?_;refine zl [(0, .agg (cellsGTree a0))] ⟨rfl, trivial⟩ ?_;unfold zx.body at h
 refine rg tok [1] fun K hK => ?_
 simp only [go_sem, qc, qa, qd, reduceCtorEq, cellsGTree];apply hK
 refine rgN [1, 3] ?_
 refine za fun Z1 hZ1 => ?_
 refine rgN [3, 9, 10, 11] ?_;apply ze
 refine yU 9 fun hb6 => ?_
 replace hb6 : qb a0.fEntries ≤ 9223372036854775807 := hb6.1;refine zr (fun m L τ => ∃ (p6 q6 : List GEntry) (x3 : Int) (x2 : Int), m = qb q6 ∧ L = [(3, .int .i64 x2), (9, .ds true (qe encGEntry a0.fEntries) (qb a0.fEntries) false), (10, .int .i64 (qb a0.fEntries : Int)), (11, .int .i64 x3)] ∧ τ = [] ∧ a0.fEntries = p6 ++ q6 ∧ x3 = (qb p6 : Int) ∧ zx.l6 ya q6 x3 x2 = some r) _ ⟨[], a0.fEntries, 0, 0, rfl, rfl, rfl, rfl, rfl, h⟩ (.t [] false) ?_;rintro m L τ ⟨p6, q6, x3, x2, rfl, rfl, rfl, hE6, hi6, h⟩
 rcases q6 with _ | ⟨y6, q6⟩
 · have hz6 := yq hE6 hi6;simp only [zx.l6] at h
   refine rg tok [3, 9, 10, 11, 12] fun K hK => ?_
   simp only [go_sem, qc, qa, hz6];apply hK
   refine za fun Z7 hZ7 => ?_
   refine zo rfl ?_;apply zy;apply hZ1;refine rgN [2] ?_;cases h;exact rtA
 obtain ⟨hz6, hw6, hx6, hE'6, hi'6⟩ := zX hE6 hi6 hb6;simp only [zx.l6] at h
 refine rg tok [3, 9, 10, 11, 12] fun K hK => ?_
 simp only [go_sem, qc, qa, hz6];apply hK
 refine za fun Z8 hZ8 => ?_
 refine zq rfl ?_;apply zd;apply hZ8
 refine za fun Z9 hZ9 => ?_
 apply ze;have f10 := E27.idxS hx6;have f11 := E27.loadS rfl rfl hx6
 refine rg tok [3, 5, 9, 10, 11] fun K hK => ?_
 simp only [go_sem, qc, qf, qa, qd, cellsGEntry, yg, f10, f11];apply hK
 refine za fun Z12 hZ12 => ?_
 refine rc [5, 9, 10, 11, 35] fun K hK => ?_
 refine rnN 5 ?_;refine zh 4 (fun L τ => L = [(5, .op 0 0 0), (9, .ds true (qe encGEntry a0.fEntries) (qb a0.fEntries) false), (10, .int .i64 (qb a0.fEntries : Int)), (11, .int .i64 x3), (23, .bool ((decide (y6.fTag ≤ x2)) || (decide (500 < y6.fTag))))] ∧ τ = [.cells 0 (cellsGEntry y6)]) ?_ ?_
 · refine yF 19 rfl (fun hg19 => ?_) (fun hg19 => ?_)
   · have t13 := eq_true hg19;refine rnN 4 ?_;refine zb ⟨rfl, _, _, ⟨rfl, rfl⟩, .p t13⟩
   have t14 := eq_false hg19;refine rnN 4 ?_;refine zb ⟨rfl, _, _, ⟨rfl, rfl⟩, .p t14⟩
 rintro _ _ ⟨rfl, rfl⟩;refine rnN 1 ?_;refine zh 5 (fun L τ => L = [(5, .op 0 0 0), (9, .ds true (qe encGEntry a0.fEntries) (qb a0.fEntries) false), (10, .int .i64 (qb a0.fEntries : Int)), (11, .int .i64 x3), (29, .bool (((decide (y6.fTag ≤ x2)) || (decide (500 < y6.fTag))) || (decide ((qb y6.fTrees : Int) < 1))))] ∧ τ = [.cells 0 (cellsGEntry y6)]) ?_ ?_
 · refine zI (b := ((decide (y6.fTag ≤ x2)) || (decide (500 < y6.fTag)))) 24 rfl (fun hg24 => ?_) (fun hg24 => ?_)
   · refine rnN 5 ?_;refine zb ⟨rfl, _, _, ⟨rfl, rfl⟩, .b hg24⟩
   refine rnN 5 ?_;refine zb ⟨rfl, _, _, ⟨rfl, rfl⟩, .b hg24⟩
 rintro _ _ ⟨rfl, rfl⟩;refine rnN 1 ?_;refine zh 5 (fun L τ => L = [(5, .op 0 0 0), (9, .ds true (qe encGEntry a0.fEntries) (qb a0.fEntries) false), (10, .int .i64 (qb a0.fEntries : Int)), (11, .int .i64 x3), (35, .bool ((((decide (y6.fTag ≤ x2)) || (decide (500 < y6.fTag))) || (decide ((qb y6.fTrees : Int) < 1))) || (decide (64 < (qb y6.fTrees : Int)))))] ∧ τ = [.cells 0 (cellsGEntry y6)]) ?_ ?_
 · refine zI (b := (((decide (y6.fTag ≤ x2)) || (decide (500 < y6.fTag))) || (decide ((qb y6.fTrees : Int) < 1)))) 30 rfl (fun hg30 => ?_) (fun hg30 => ?_)
   · refine rnN 5 ?_;refine zb ⟨rfl, _, _, ⟨rfl, rfl⟩, .b hg30⟩
   refine rnN 5 ?_;refine zb ⟨rfl, _, _, ⟨rfl, rfl⟩, .b hg30⟩
 rintro _ _ ⟨rfl, rfl⟩;refine nkN hK ?_;refine zn (b := ((((decide (y6.fTag ≤ x2)) || (decide (500 < y6.fTag))) || (decide ((qb y6.fTrees : Int) < 1))) || (decide (64 < (qb y6.fTrees : Int))))) rfl (fun hc15 => ?_) (fun hc15 => ?_)
 · rw [if_pos hc15] at h;refine rgN [2] ?_;cases h;exact rtA
 rw [xP hc15] at h;apply zd;apply hZ12;refine rgN [3, 5, 9, 10, 11] ?_;refine rgN [3, 5, 9, 10, 11, 39, 40, 41] ?_;apply ze
 refine yU 39 fun hb18 => ?_
 replace hb18 : qb y6.fTrees ≤ 9223372036854775807 := hb18.1;refine zr (fun m L τ => ∃ (p18 q18 : List GTree) (x16 : Int), m = qb q18 ∧ L = [(3, .int .i64 y6.fTag), (5, .op 0 0 0), (9, .ds true (qe encGEntry a0.fEntries) (qb a0.fEntries) false), (10, .int .i64 (qb a0.fEntries : Int)), (11, .int .i64 x3), (39, .ds true (qe encGTree y6.fTrees) (qb y6.fTrees) false), (40, .int .i64 (qb y6.fTrees : Int)), (41, .int .i64 x16)] ∧ τ = [.cells 0 (cellsGEntry y6)] ∧ y6.fTrees = p18 ++ q18 ∧ x16 = (qb p18 : Int) ∧ zx.l18 ya x3 (zx.l6 ya q6) y6 q18 x16 = some r) _ ⟨[], y6.fTrees, 0, rfl, rfl, rfl, rfl, rfl, h⟩ .s ?_;rintro m L τ ⟨p18, q18, x16, rfl, rfl, rfl, hE18, hi18, h⟩
 rcases q18 with _ | ⟨y18, q18⟩
 · have hz18 := yq hE18 hi18;simp only [zx.l18] at h
   refine rg tok [3, 5, 9, 10, 11, 39, 40, 41, 42] fun K hK => ?_
   simp only [go_sem, qc, qa, hz18];apply hK
   refine za fun Z19 hZ19 => ?_
   refine zo rfl ?_;apply zy;apply hZ9
   refine rgE tok [3, 9, 10, 11] fun K hK => ?_
   simp only [go_sem, qc, qa, hw6];apply hK
   exact ⟨_, _, _, qs q6.length, ⟨p6 ++ [y6], q6, x3 + 1, y6.fTag, rfl, rfl, rfl, hE'6, hi'6, h⟩, (.t [] false)⟩
 obtain ⟨hz18, hw18, hx18, hE'18, hi'18⟩ := zX hE18 hi18 hb18;simp only [zx.l18] at h
 refine rg tok [3, 5, 9, 10, 11, 39, 40, 41, 42] fun K hK => ?_
 simp only [go_sem, qc, qa, hz18];apply hK
 refine za fun Z20 hZ20 => ?_
 refine zq rfl ?_;apply zd;apply hZ20
 refine za fun Z21 hZ21 => ?_
 apply ze;have f22 := E90.idxS hx18;have f23 := E90.loadS rfl rfl hx18
 refine rg tok [3, 5, 7, 9, 10, 11, 39, 40, 41] fun K hK => ?_
 simp only [go_sem, qc, qf, qa, qd, cellsGTree, yp, f22, f23];apply hK
 refine xr (fun L τ => ∃ (x24 : Bool), L = [(3, .int .i64 y6.fTag), (5, .op 0 0 0), (9, .ds true (qe encGEntry a0.fEntries) (qb a0.fEntries) false), (10, .int .i64 (qb a0.fEntries : Int)), (11, .int .i64 x3), (39, .ds true (qe encGTree y6.fTrees) (qb y6.fTrees) false), (40, .int .i64 (qb y6.fTrees : Int)), (41, .int .i64 x16), (57, .bool x24)] ∧ τ = [.cells 0 (cellsGEntry y6)] ∧ zx.j25 x16 (zx.l18 ya x3 (zx.l6 ya q6) y6 q18) x24 = some r) ?_ ?_
 · refine rdE [3, 5, 9, 10, 11, 39, 40, 41, 57] fun K hK => ?_
   refine DW.start (T := tab) [.any, .at [], .any, .at [], .any, .any, .at [], .any, .any, .at [], .eff, .any, .any] [] ?_;obtain ⟨y27, hy27, h⟩ := bind_some h;have f28 := E90.idxS hy27;have f29 := E90.fldS0 (f := 3) rfl rfl hy27;refine DW.runN tok 8 ?_;simp only [go_sem, qc, qa, qd, cellsGTree, yp, f28, f29];refine DW.runN tok 1 ?_;simp only [go_sem, qc, qa]
   refine DW.if 53 rfl (fun hg53 => ?_) (fun hg53 => ?_)
   · rw [if_neg hg53] at h;have t30 := eq_false hg53;refine DW.runN tok 4 ?_;simp only [go_sem, qc, qa, t30];refine DW.fin tok (by decide +kernel) rfl ?_;simp only [zp, upd, qa, reduceIte, yP, xG];apply hK
     exact ⟨_, _, ⟨true, rfl, rfl, h⟩, (.t [0] false)⟩
   rw [if_pos hg53] at h;have t31 := eq_true hg53;obtain ⟨r32, hr32, h⟩ := bind_some h;refine DW.runN tok 1 ?_;simp only [go_sem, qc, qf, qa, qd, t31];refine DW.call rfl rfl rfl (ev_value_right y18 r32 hr32 _) ?_;refine DW.runN tok 2 ?_;simp only [go_sem, qc, qa];refine DW.fin tok (by decide +kernel) rfl ?_;simp only [zp, upd, qa, reduceIte, yP, xG];apply hK
   exact ⟨_, _, ⟨!r32, rfl, rfl, h⟩, (.t [0] false)⟩
 rintro _ _ ⟨x24, rfl, rfl, h⟩;unfold zx.j25 at h;refine zn (b := x24) rfl (fun hc26 => ?_) (fun hc26 => ?_)
 · rw [if_pos hc26] at h;refine rgN [2] ?_;cases h;exact rtA
 rw [xP hc26] at h;apply zd;apply hZ21
 refine rgE tok [3, 5, 9, 10, 11, 39, 40, 41] fun K hK => ?_
 simp only [go_sem, qc, qa, hw18];apply hK
 exact ⟨_, _, _, qs q18.length, ⟨p18 ++ [y18], q18, x16 + 1, rfl, rfl, rfl, hE'18, hi'18, h⟩, .s⟩
end
section
set_option maxRecDepth 4000
set_option maxHeartbeats 1000000
open AM
def y0.body (xD : GTree → Option Bool) (ya : GTree → Option Bool) (a0 : GTree) : Option Bool :=
 (if a0.fKind = 1 then some (((decide (a0.fS = [])) && (decide ((qb a0.fEntries : Int) = 0))) && (decide ((qb a0.fRest : Int) = 0))) else (if a0.fKind = 2 then some (((decide (a0.fN = 0)) && (decide ((qb a0.fEntries : Int) = 0))) && (decide ((qb a0.fRest : Int) = 0))) else (if a0.fKind = 3 then (if ((decide (a0.fN = 0)) && (decide (a0.fS = []))) = true then (xD a0).bind fun r16 => some r16 else some false).bind fun c16 => (if c16 = true then (yG a0).bind fun r18 => some r18 else some false).bind fun c18 => some c18 else some false)))
theorem y0.step (xD : GTree → Option Bool) (ya : GTree → Option Bool) (ZV : ∀ (a0 : GTree) (r : Bool), xD a0 = some r → ACalls qh 153 [.agg (cellsGTree a0)] [] (fun r' _ => r' = .bool r)) (Yv : ∀ (a0 : GTree) (r : Bool), ya a0 = some r → ACalls qh 132 [.agg (cellsGTree a0)] [] (fun r' _ => r' = .bool r)) (a0 : GTree) (r : Bool) (h : y0.body xD ya a0 = some r) : ACalls qh 132 [.agg (cellsGTree a0)] [] (fun r' _ => r' = .bool r) := by
 have ev_value_entries := fun a0 r h σ => (ZV a0 r h).c σ
 have ev_value_right := fun a0 r h σ => (Yv a0 r h).c σ
 refine zf (rs := [.tmp 2]) tok Tryz.func132 rfl Tryz.ntmps132 rfl Tryz.call132 (by simp) ?_;refine zl [(0, .agg (cellsGTree a0))] ⟨rfl, trivial⟩ ?_;unfold y0.body at h
 refine rg tok [1] fun K hK => ?_
 simp only [go_sem, qc, qa, qd, reduceCtorEq, cellsGTree];apply hK
 refine za fun Z1 hZ1 => ?_
 refine rgN [1, 4] ?_;apply ze;refine rgN [1, 4, 5] ?_;refine zw rfl (fun hc2 => ?_) (fun hc2 => ?_)
 · rw [if_pos hc2] at h;have t3 := eq_true hc2
   refine rc [2] fun K hK => ?_
   refine zj tok 4 ?_;simp only [go_sem, qc, qa, qd, t3];refine zh 5 (fun L τ => L = [(1, .op 0 0 0), (15, .bool ((decide (a0.fS = [])) && (decide ((qb a0.fEntries : Int) = 0))))] ∧ τ = [.cells 0 (cellsGTree a0)]) ?_ ?_
   · refine yF 10 rfl (fun hg10 => ?_) (fun hg10 => ?_)
     · have t4 := eq_true hg10;refine rnN 5 ?_;refine zb ⟨rfl, _, _, ⟨rfl, rfl⟩, .p t4⟩
     have t5 := eq_false hg10;refine rnN 5 ?_;refine zb ⟨rfl, _, _, ⟨rfl, rfl⟩, .p t5⟩
   rintro _ _ ⟨rfl, rfl⟩;refine rnN 1 ?_;refine zh 5 (fun L τ => L = [(21, .bool (((decide (a0.fS = [])) && (decide ((qb a0.fEntries : Int) = 0))) && (decide ((qb a0.fRest : Int) = 0))))] ∧ τ = [.cells 0 (cellsGTree a0)]) ?_ ?_
   · refine zI (b := ((decide (a0.fS = [])) && (decide ((qb a0.fEntries : Int) = 0)))) 16 rfl (fun hg16 => ?_) (fun hg16 => ?_)
     · refine rnN 5 ?_;refine zb ⟨rfl, _, _, ⟨rfl, rfl⟩, .b hg16⟩
     refine rnN 5 ?_;refine zb ⟨rfl, _, _, ⟨rfl, rfl⟩, .b hg16⟩
   rintro _ _ ⟨rfl, rfl⟩;refine rnN 1 ?_;refine nkN hK ?_;cases h;exact rtA
 rw [if_neg hc2] at h;have t6 := eq_false hc2
 refine rg tok [1, 4, 22] fun K hK => ?_
 simp only [go_sem, qc, qa, t6];apply hK
 refine zw rfl (fun hc7 => ?_) (fun hc7 => ?_)
 · rw [if_pos hc7] at h;have t8 := eq_true hc7
   refine rc [2] fun K hK => ?_
   refine zj tok 4 ?_;simp only [go_sem, qc, qa, qd, t8];refine zh 5 (fun L τ => L = [(1, .op 0 0 0), (32, .bool ((decide (a0.fN = 0)) && (decide ((qb a0.fEntries : Int) = 0))))] ∧ τ = [.cells 0 (cellsGTree a0)]) ?_ ?_
   · refine yF 27 rfl (fun hg27 => ?_) (fun hg27 => ?_)
     · have t9 := eq_true hg27;refine rnN 5 ?_;refine zb ⟨rfl, _, _, ⟨rfl, rfl⟩, .p t9⟩
     have t10 := eq_false hg27;refine rnN 5 ?_;refine zb ⟨rfl, _, _, ⟨rfl, rfl⟩, .p t10⟩
   rintro _ _ ⟨rfl, rfl⟩;refine rnN 1 ?_;refine zh 5 (fun L τ => L = [(38, .bool (((decide (a0.fN = 0)) && (decide ((qb a0.fEntries : Int) = 0))) && (decide ((qb a0.fRest : Int) = 0))))] ∧ τ = [.cells 0 (cellsGTree a0)]) ?_ ?_
   · refine zI (b := ((decide (a0.fN = 0)) && (decide ((qb a0.fEntries : Int) = 0)))) 33 rfl (fun hg33 => ?_) (fun hg33 => ?_)
     · refine rnN 5 ?_;refine zb ⟨rfl, _, _, ⟨rfl, rfl⟩, .b hg33⟩
     refine rnN 5 ?_;refine zb ⟨rfl, _, _, ⟨rfl, rfl⟩, .b hg33⟩
   rintro _ _ ⟨rfl, rfl⟩;refine rnN 1 ?_;refine nkN hK ?_;cases h;exact rtA
 rw [if_neg hc7] at h;have t11 := eq_false hc7
 refine rg tok [1, 39] fun K hK => ?_
 simp only [go_sem, qc, qa, t11];apply hK
 refine zw rfl (fun hc12 => ?_) (fun hc12 => ?_)
 · rw [if_pos hc12] at h;have t13 := eq_true hc12
   refine rc [2] fun K hK => ?_
   refine zj tok 4 ?_;simp only [go_sem, qc, qa, qd, t13];refine zh 4 (fun L τ => L = [(1, .op 0 0 0), (48, .bool ((decide (a0.fN = 0)) && (decide (a0.fS = []))))] ∧ τ = [.cells 0 (cellsGTree a0)]) ?_ ?_
   · refine yF 44 rfl (fun hg44 => ?_) (fun hg44 => ?_)
     · have t14 := eq_true hg44;refine rnN 4 ?_;refine zb ⟨rfl, _, _, ⟨rfl, rfl⟩, .p t14⟩
     have t15 := eq_false hg44;refine rnN 4 ?_;refine zb ⟨rfl, _, _, ⟨rfl, rfl⟩, .p t15⟩
   rintro _ _ ⟨rfl, rfl⟩;refine rnN 1 ?_;obtain ⟨c16, hc16, h⟩ := bind_some h;refine zh 3 (fun L τ => L = [(1, .op 0 0 0), (52, .bool c16)] ∧ τ = [.cells 0 (cellsGTree a0)]) ?_ ?_
   · refine zI (b := ((decide (a0.fN = 0)) && (decide (a0.fS = [])))) 49 rfl (fun hg49 => ?_) (fun hg49 => ?_)
     · rw [if_pos hg49] at hc16;obtain ⟨r17, hr17, hc16⟩ := bind_some hc16;refine rnN 1 ?_;refine clN rfl rfl rfl (ev_value_entries a0 r17 hr17 _) ?_;refine rnN 1 ?_;cases hc16;refine zb ⟨rfl, _, _, ⟨rfl, rfl⟩, .b hg49⟩
     rw [xP hg49] at hc16;refine rnN 3 ?_;cases hc16;refine zb ⟨rfl, _, _, ⟨rfl, rfl⟩, .b hg49⟩
   rintro _ _ ⟨rfl, rfl⟩;refine rnN 1 ?_;obtain ⟨c18, hc18, h⟩ := bind_some h;refine zh 3 (fun L τ => L = [(56, .bool c18)] ∧ τ = [.cells 0 (cellsGTree a0)]) ?_ ?_
   · refine zI (b := c16) 53 rfl (fun hg53 => ?_) (fun hg53 => ?_)
     · rw [if_pos hg53] at hc18;obtain ⟨r19, hr19, hc18⟩ := bind_some hc18;refine rnN 1 ?_;refine clN rfl rfl rfl (yG.ev a0 r19 hr19 _) ?_;refine rnN 1 ?_;cases hc18;refine zb ⟨rfl, _, _, ⟨rfl, rfl⟩, .b hg53⟩
     rw [xP hg53] at hc18;refine rnN 3 ?_;cases hc18;refine zb ⟨rfl, _, _, ⟨rfl, rfl⟩, .b hg53⟩
   rintro _ _ ⟨rfl, rfl⟩;refine rnN 1 ?_;refine nkN hK ?_;cases h;exact rtA
 rw [if_neg hc12] at h;have t20 := eq_false hc12;apply zd;apply hZ1
 refine rg tok [2] fun K hK => ?_
 simp only [go_sem, qc, qa, t20];apply hK
 cases h;exact rtA
mutual
def zx : Nat → GTree → Option Bool
 | 0, _ => none
 | k + 1, a0 => zx.body (zx k) (y0 k) a0
def y0 : Nat → GTree → Option Bool
 | 0, _ => none
 | k + 1, a0 => y0.body (zx k) (y0 k) a0
end
theorem zx.all (k : Nat) : (∀ (a0 : GTree) (r : Bool), zx k a0 = some r → ACalls qh 153 [.agg (cellsGTree a0)] [] (fun r' _ => r' = .bool r)) ∧ (∀ (a0 : GTree) (r : Bool), y0 k a0 = some r → ACalls qh 132 [.agg (cellsGTree a0)] [] (fun r' _ => r' = .bool r)) := by
 induction k with
 | zero => exact ⟨(fun a0 r h => by simp only [zx] at h; cases h), (fun a0 r h => by simp only [y0] at h; cases h)⟩
 | succ k ih => exact ⟨(fun a0 r h => zx.step _ _ ih.1 ih.2 a0 r (by simpa only [zx] using h)), (fun a0 r h => y0.step _ _ ih.1 ih.2 a0 r (by simpa only [y0] using h))⟩
theorem y0.ev (k : Nat) (a0 : GTree) (r : Bool) (h : y0 k a0 = some r) (σ : Store) : ACalls qh 132 [.agg (cellsGTree a0)] σ (fun r' σ' => r' = .bool r ∧ σ' = σ) :=
 ((zx.all k).2 a0 r h).c σ
def wD (a0 : GTree) : Option Bool :=
 (wC a0).bind fun r1 => (if r1 ≤ 10 then (y0 rounds a0).bind fun r2 => some r2 else some false).bind fun c2 => some c2
theorem wD.ok (a0 : GTree) (r : Bool) (h : wD a0 = some r) : ACalls qh 96 [.agg (cellsGTree a0)] [] (fun r' _ => r' = .bool r) := by
 refine zf (rs := [.tmp 2]) tok Tryz.func96 rfl Tryz.ntmps96 rfl Tryz.call96 (by simp) ?_;refine zl [(0, .agg (cellsGTree a0))] ⟨rfl, trivial⟩ ?_;unfold wD at h
 refine rg tok [1] fun K hK => ?_
 simp only [go_sem, qc, qa, qd, reduceCtorEq, cellsGTree];apply hK
 refine rc [2] fun K hK => ?_
 obtain ⟨r1, hr1, h⟩ := bind_some h;refine rnN 1 ?_;refine clN rfl rfl rfl (wC.ev a0 r1 hr1 _) ?_;refine rnN 2 ?_;obtain ⟨c2, hc2, h⟩ := bind_some h;refine zh 3 (fun L τ => L = [(9, .bool c2)] ∧ τ = [.cells 0 (cellsGTree a0)]) ?_ ?_
 · refine yF 6 rfl (fun hg6 => ?_) (fun hg6 => ?_)
   · have t3 := eq_true hg6;rw [if_pos hg6] at hc2;obtain ⟨r4, hr4, hc2⟩ := bind_some hc2;refine rnN 1 ?_;refine clN rfl rfl rfl (y0.ev rounds a0 r4 hr4 _) ?_;refine rnN 1 ?_;cases hc2;refine zb ⟨rfl, _, _, ⟨rfl, rfl⟩, .p t3⟩
   have t5 := eq_false hg6;rw [if_neg hg6] at hc2;refine rnN 3 ?_;cases hc2;refine zb ⟨rfl, _, _, ⟨rfl, rfl⟩, .p t5⟩
 rintro _ _ ⟨rfl, rfl⟩;refine rnN 1 ?_;refine nkN hK ?_;cases h;exact rtA
theorem wD.ev (a0 : GTree) (r : Bool) (h : wD a0 = some r) (σ : Store) : ACalls qh 96 [.agg (cellsGTree a0)] σ (fun r' σ' => r' = .bool r ∧ σ' = σ) :=
 (wD.ok a0 r h).c σ
def ZT (a0 : Int) : GValueValue :=
 (GValueValue.num a0)
theorem ZT.ok (a0 : Int) (r : GValueValue) (h : ZT a0 = r) : ACalls qh 133 [.int .i64 a0] [] (fun r' _ => r' = .agg (encGValueValue r)) := by
 refine zf (rs := [.cell 2 110]) tok Tryz.func133 rfl Tryz.ntmps133 rfl Tryz.call133 (by simp) ?_;refine zl [(0, .int .i64 a0)] ⟨rfl, trivial⟩ ?_;unfold ZT at h;refine rgN [0, 2] ?_;refine rgN [2] ?_;cases h;exact rtA
theorem ZT.ev (a0 : Int) (r : GValueValue) (h : ZT a0 = r) (σ : Store) : ACalls qh 133 [.int .i64 a0] σ (fun r' σ' => r' = .agg (encGValueValue r) ∧ σ' = σ) :=
 (ZT.ok a0 r h).c σ
def ZS (a0 : List UInt8) : GValueValue :=
 (GValueValue.str a0)
theorem ZS.ok (a0 : List UInt8) (r : GValueValue) (h : ZS a0 = r) : ACalls qh 134 [.str a0] [] (fun r' _ => r' = .agg (encGValueValue r)) := by
 refine zf (rs := [.cell 2 110]) tok Tryz.func134 rfl Tryz.ntmps134 rfl Tryz.call134 (by simp) ?_;refine zl [(0, .str a0)] ⟨rfl, trivial⟩ ?_;unfold ZS at h;refine rgN [0, 2] ?_;refine rgN [2] ?_;cases h;exact rtA
theorem ZS.ev (a0 : List UInt8) (r : GValueValue) (h : ZS a0 = r) (σ : Store) : ACalls qh 134 [.str a0] σ (fun r' σ' => r' = .agg (encGValueValue r) ∧ σ' = σ) :=
 (ZS.ok a0 r h).c σ
def yQ (a0 : List GRaw) : Option (List GRaw) := (Yf (qb a0) 40).bind fun _ => some a0
theorem yQ.ok (a0 r : List GRaw) (h : yQ a0 = some r) : ACalls qh 135 [.ds true (qe encGRaw a0) (qb a0) false] [] (fun r' _ => r' = .ds true (qe encGRaw r) (qb r) false) := by
 obtain ⟨_u, hu, h⟩ := bind_some h;have gu := yi hu;cases h
 have f1 := fun nl tt σ => xK E28.len a0 nl tt σ
 have f2 := zv E28.len a0;have f3 := Ze encGRaw a0
 have fin : ∀ σ id ver tt, Store.at σ id ver = some (qe encGRaw a0) → tell σ [] true 12 (.os true 4 id ver 0 (qb a0) tt) = .ds true (qe encGRaw a0) (qb a0) false := by
  intro σ id ver tt hs
  simp only [Zw, Za, hs, qB, qn];rw [if_pos (by rw [f2]; exact qu _), ← f2, ul, zH]
 refine zf (rs := [.tmp 2]) tok Tryz.func135 rfl Tryz.ntmps135 rfl Tryz.call135 (by simp) ?_;refine zl [(0, .ds true (qe encGRaw a0) (qb a0) false)] ⟨rfl, trivial⟩ ?_;refine rgN [0] ?_
 refine za fun Z1 hZ1 => ?_
 refine rc [0, 4] fun K hK => ?_
 refine rnN 1 ?_
 refine vaG tok rfl rfl rfl rfl rfl rfl fun b hnil => ?_
 have hb : b = true → a0 = [] := fun hb => by
  have := hnil hb;simp only [yj, go_sem, reduceCtorEq] at this;exact u0 this
 clear hnil
 refine nkN hK ?_;cases b
 · refine zo rfl ?_;apply zd;apply hZ1
   refine rg tok [2] fun K hK => ?_
   by_cases h0 : qb a0 = 0
   · obtain rfl := u0 h0;simp only [go_sem, qc, qa, qd, reduceCtorEq, zN, z6, qY, uk, z8, zO, yj, yn, ui, ql, uC, ua];apply hK
     apply yA;simp only [ZC, yV, xe, xQ, exists_eq_left', go_sem]
     first | rfl | (simp only [go_sem, qc, qf, qa, qd, qt, qG, reduceIte, reduceCtorEq, Zw, Za, qw] <;> rfl)
   have h1 := eq_false h0;simp only [go_sem, qc, qa, qd, reduceCtorEq, zN, z6, qY, uk, z8, zO, yj, f1, f3, h1, gu, yB, qw, qA, uC];apply hK
   apply yA;simp only [ZC, yV, xe, xQ, exists_eq_left', go_sem];exact fin _ _ _ _ (by simp only [Store.at_hd, Store.at_tl, if_true])
 obtain rfl := hb rfl;refine zq rfl ?_;refine rgN [2] ?_;apply yA;simp only [ZC, yV, xe, xQ, exists_eq_left', go_sem]
 first | rfl | (simp only [go_sem, qc, qf, qa, qd, qt, qG, reduceIte, reduceCtorEq, Y2, qw, qO, qL, qP] <;> rfl)
theorem yQ.own (a0 r : List GRaw) (h : yQ a0 = some r) : ACalls qh 135 [.ds true (qe encGRaw a0) (qb a0) false] [] (fun r' σ' => r' = .os true 4 0 0 0 (qb r) false ∧ σ' = [.cells 0 (qe encGRaw r)]) := by
 obtain ⟨_u, hu, h⟩ := bind_some h;have gu := yi hu;cases h
 have f1 := fun nl tt σ => xK E28.len a0 nl tt σ
 have f2 := zv E28.len a0;have f3 := Ze encGRaw a0;refine vcf (rs := [.tmp 2]) tok Tryz.func135 rfl Tryz.ntmps135 rfl Tryz.call135 (by simp) ?_;refine zl [(0, .ds true (qe encGRaw a0) (qb a0) false)] ⟨rfl, trivial⟩ ?_;refine rgN [0] ?_
 refine za fun Z1 hZ1 => ?_
 refine rc [0, 4] fun K hK => ?_
 refine rnN 1 ?_
 refine vaG tok rfl rfl rfl rfl rfl rfl fun b hnil => ?_
 have hb : b = true → a0 = [] := fun hb => by
  have := hnil hb;simp only [yj, go_sem, reduceCtorEq] at this;exact u0 this
 clear hnil
 refine nkN hK ?_;cases b
 · refine zo rfl ?_;apply zd;apply hZ1
   refine rg tok [2] fun K hK => ?_
   by_cases h0 : qb a0 = 0
   · obtain rfl := u0 h0;simp only [go_sem, qc, qa, qd, reduceCtorEq, zN, z6, qY, uk, z8, zO, yj, yn, ui, ql, uC, ua];apply hK
     apply yA;simp only [ZC, yV, xe, xQ, exists_eq_left', go_sem];refine .inl ⟨0, true, by simp, ?_, ?_⟩
     · first | rfl | (simp only [go_sem, qc, qf, qa, qd, qt, qG, reduceIte, reduceCtorEq, Zw, Zf, if_true] <;> rfl)
     first | rfl | (simp only [go_sem, qc, qf, qa, qd, qt, qG, reduceIte, reduceCtorEq, YB, vbA, Yg, YD, YC, qw] <;> rfl)
   have h1 := eq_false h0;simp only [go_sem, qc, qa, qd, reduceCtorEq, zN, z6, qY, uk, z8, zO, yj, f1, f3, h1, gu, yB, qw, qA, uC];apply hK
   apply yA;simp only [ZC, yV, xe, xQ, exists_eq_left', go_sem, qd];refine .inl ⟨1, false, by simp, ?_, ?_⟩
   · first | rfl | (simp only [go_sem, qc, qf, qa, qd, qt, qG, reduceIte, reduceCtorEq, Zw, Zf, if_true] <;> rfl)
   first | rfl | (simp only [go_sem, YB, Yg, YD, YC, zH] <;> rfl)
 obtain rfl := hb rfl;refine zq rfl ?_;refine rgN [2] ?_;apply yA;simp only [ZC, yV, xe, xQ, exists_eq_left', go_sem];refine .inr ?_
 first | rfl | (simp only [go_sem, qc, qf, qa, qd, qt, qG, reduceIte, reduceCtorEq, Y2, qw, qO, qS, qz, qQ] <;> rfl)
theorem yQ.ev (a0 r : List GRaw) (h : yQ a0 = some r) (σ : Store) : ACalls qh 135 [.ds true (qe encGRaw a0) (qb a0) false] σ (fun r' σ' => r' = .ds true (qe encGRaw r) (qb r) false ∧ σ' = σ) :=
 (yQ.ok a0 r h).pureAt (by simp only [AV.canon, canonL, canon_all, qU, qz, uT]) (by simp only [AV.canon, canon_all, qU, qz, uT]) σ
def zL.l35 (yv : GTree → Option GValueValue) (l14 : List GValueEntry) (x16 : Int) (rec20 : List GValueEntry → Int → Option GValueValue) (y25 : GEntry) : List GTree → Int → List GValueValue → Option GValueValue
 | [], x31, l29 => (Yf (qb l14 + 1) 32).bind fun _u37 => (rec20 (l14 ++ [(⟨y25.fTag, l29⟩ : GValueEntry)]) (IntKind.i64.wrap (x16 + 1)))
 | y35 :: q35, x31, l29 => (yv y35).bind fun r43 => (Yf (qb l29 + 1) 16).bind fun _u45 => ((zL.l35 yv l14 x16 rec20 y25 q35) (x31 + 1) (l29 ++ [r43]))
def zL.l20 (yv : GTree → Option GValueValue) (a0 : GTree) (r12 : List GRaw) : Nat → List GValueEntry → Int → Option GValueValue
 | 0, _, _ => none
 | k20 + 1, l14, x16 => (if x16 < (qb a0.fEntries : Int) then (Zb a0.fEntries x16).bind fun y25 => (zL.l35 yv l14 x16 (zL.l20 yv a0 r12 k20) y25 y25.fTrees 0 ([] : List GValueValue)) else some (GValueValue.node l14 r12))
def zL.l62 (yv : GTree → Option GValueValue) (a0 : GTree) (r12 : List GRaw) (y52 : GEntry) : List GTree → Int → List GValueValue → Option GValueValue
 | [], x58, l56 => (zL.l20 yv a0 r12 rounds [(⟨y52.fTag, l56⟩ : GValueEntry)] (IntKind.i64.wrap (0 + 1)))
 | y62 :: q62, x58, l56 => (yv y62).bind fun r68 => (Yf (qb l56 + 1) 16).bind fun _u70 => ((zL.l62 yv a0 r12 y52 q62) (x58 + 1) (l56 ++ [r68]))
def zL.body (yv : GTree → Option GValueValue) (a0 : GTree) : Option GValueValue :=
 (if a0.fKind = 1 then bnd (ZT a0.fN) fun r4 => some r4 else (if a0.fKind = 2 then bnd (ZS a0.fS) fun r9 => some r9 else (yQ a0.fRest).bind fun r12 => (if 0 < (qb a0.fEntries : Int) then (Zb a0.fEntries 0).bind fun y52 => (zL.l62 yv a0 r12 y52 y52.fTrees 0 ([] : List GValueValue)) else some (GValueValue.node ([] : List GValueEntry) r12))))
theorem zL.step (yv : GTree → Option GValueValue) (ih_value_made : ∀ (a0 : GTree) (r : GValueValue), yv a0 = some r → ACalls qh 97 [.agg (cellsGTree a0)] [] (fun r' _ => r' = .agg (encGValueValue r))) (a0 : GTree) (r : GValueValue) (h : zL.body yv a0 = some r) : ACalls qh 97 [.agg (cellsGTree a0)] [] (fun r' _ => r' = .agg (encGValueValue r)) := by
 have ev_value_made := fun a0 r h σ => (ih_value_made a0 r h).c σ
 refine zf (rs := [.cell 2 110]) tok Tryz.func97 rfl Tryz.ntmps97 rfl Tryz.call97 (by simp) ?_;refine zl [(0, .agg (cellsGTree a0))] ⟨rfl, trivial⟩ ?_;unfold zL.body at h
 refine rg tok [1, 2] fun K hK => ?_
 simp only [go_sem, qc, qa, qd, reduceCtorEq, cellsGTree];apply hK
 refine za fun Z1 hZ1 => ?_
 refine rgN [1, 2, 10] ?_;apply ze;refine rgN [1, 2, 10, 11] ?_;refine zw rfl (fun hc2 => ?_) (fun hc2 => ?_)
 · rw [if_pos hc2] at h;have t3 := eq_true hc2
   refine rc [2] fun K hK => ?_
   obtain ⟨r4, hr4, h⟩ := zS h;refine zj tok 2 ?_;simp only [go_sem, qc, qa, qd, t3];refine clN rfl rfl rfl (ZT.ev a0.fN r4 hr4 _) ?_;have f5 := ZG r4;unfold AV.one at f5;refine zj tok 1 ?_;simp only [go_sem, qf, qa, encGValueValue, f5];refine nkN hK ?_;cases h;exact rtA
 rw [if_neg hc2] at h;have t6 := eq_false hc2
 refine rg tok [1, 2, 16] fun K hK => ?_
 simp only [go_sem, qc, qa, t6];apply hK
 refine zw rfl (fun hc7 => ?_) (fun hc7 => ?_)
 · rw [if_pos hc7] at h;have t8 := eq_true hc7
   refine rc [2] fun K hK => ?_
   obtain ⟨r9, hr9, h⟩ := zS h;refine zj tok 2 ?_;simp only [go_sem, qc, qa, qd, t8];refine clN rfl rfl rfl (ZS.ev a0.fS r9 hr9 _) ?_;have f10 := ZG r9;unfold AV.one at f10;refine zj tok 1 ?_;simp only [go_sem, qf, qa, encGValueValue, f10];refine nkN hK ?_;cases h;exact rtA
 rw [if_neg hc7] at h;have t11 := eq_false hc7;apply zd;apply hZ1
 refine rc [1, 2, 3] fun K hK => ?_
 obtain ⟨r12, hr12, h⟩ := bind_some h;refine zj tok 2 ?_;simp only [go_sem, qc, qa, qd, t11];refine clN rfl rfl rfl (yQ.ev a0.fRest r12 hr12 _) ?_;refine rnN 3 ?_;refine nkN hK ?_
 refine za fun Z13 hZ13 => ?_
 refine rgN [2, 3, 27, 28, 29] ?_;apply ze;refine awp_loopS1 (fun m L τ => ∃ (k20 : Nat) (l14 : List GValueEntry) (x16 : Int) (v15 : Nat), m = 0 + k20 ∧ L = [(2, .op 0 0 0), (3, .op 1 0 0), (27, .ds true (qe encGEntry a0.fEntries) (qb a0.fEntries) false), (28, .int .i64 (qb a0.fEntries : Int)), (29, .int .i64 x16)] ∧ τ = [.cells 0 [.nilI], .cells 0 [.os true 2 2 v15 0 (qb l14) false, .ds true (qe encGRaw r12) (qb r12) false], .cells v15 (qe encGValueEntry l14)] ∧ zL.l20 yv a0 r12 k20 l14 x16 = some r) (rounds + 1) ?_ ?_
 · refine rgN [2, 3, 27, 28, 29, 30] ?_
   refine za fun Z48 hZ48 => ?_
   refine zw rfl (fun hc49 => ?_) (fun hc49 => ?_)
   · rw [if_pos hc49] at h;have t50 := eq_true hc49;apply zd;apply hZ48
     refine za fun Z51 hZ51 => ?_
     apply ze;obtain ⟨y52, hy52, h⟩ := bind_some h;have f53 := E27.idxS hy52;have f54 := E27.loadS rfl rfl hy52
     refine rg tok [2, 3, 5, 27, 28, 29] fun K hK => ?_
     simp only [go_sem, qc, qf, qa, qd, cellsGEntry, yg, t50, f53, f54];apply hK
     refine rgN [2, 3, 5, 6, 27, 28, 29] ?_;refine Zr 4 1 1 rfl (by simp) rfl (L := [(2, .op 1 0 0), (3, .op 2 0 0), (5, .op 3 0 0), (6, .op 4 0 0), (27, .ds true (qe encGEntry a0.fEntries) (qb a0.fEntries) false), (28, .int .i64 (qb a0.fEntries : Int)), (29, .int .i64 0)]) (τ := [.cells 0 (cellsGTree a0), .cells 0 [.nilI], .cells 0 [.ds true [] 0 true, .ds true (qe encGRaw r12) (qb r12) false], .cells 0 (cellsGEntry y52), .cells 0 [.int .i64 y52.fTag, .os true 1 5 0 0 (qb ([] : List GValueValue)) false], .cells 0 (qe encGValueValue ([] : List GValueValue))]) .s ?_
     refine za fun Z55 hZ55 => ?_
     refine rgN [2, 3, 6, 27, 28, 29, 37, 38, 39] ?_;apply ze
     refine yU 37 fun hb62 => ?_
     replace hb62 : qb y52.fTrees ≤ 9223372036854775807 := hb62.1;refine zr (fun m L τ => ∃ (p62 q62 : List GTree) (x58 : Int) (l56 : List GValueValue) (v57 : Nat), m = qb q62 ∧ L = [(2, .op 0 0 0), (3, .op 1 0 0), (6, .op 2 0 0), (27, .ds true (qe encGEntry a0.fEntries) (qb a0.fEntries) false), (28, .int .i64 (qb a0.fEntries : Int)), (29, .int .i64 0), (37, .ds true (qe encGTree y52.fTrees) (qb y52.fTrees) false), (38, .int .i64 (qb y52.fTrees : Int)), (39, .int .i64 x58)] ∧ τ = [.cells 0 [.nilI], .cells 0 [.ds true [] 0 true, .ds true (qe encGRaw r12) (qb r12) false], .cells 0 [.int .i64 y52.fTag, .os true 1 3 v57 0 (qb l56) false], .cells v57 (qe encGValueValue l56)] ∧ y52.fTrees = p62 ++ q62 ∧ x58 = (qb p62 : Int) ∧ zL.l62 yv a0 r12 y52 q62 x58 l56 = some r) _ ⟨[], y52.fTrees, 0, ([] : List GValueValue), 0, rfl, rfl, rfl, rfl, rfl, h⟩ (.t [1, 2, 4, 5] false) ?_;rintro m L τ ⟨p62, q62, x58, l56, v57, rfl, rfl, rfl, hE62, hi62, h⟩
     rcases q62 with _ | ⟨y62, q62⟩
     · have hz62 := yq hE62 hi62;simp only [zL.l62] at h
       refine rg tok [2, 3, 6, 27, 28, 29, 37, 38, 39, 40] fun K hK => ?_
       simp only [go_sem, qc, qa, hz62];apply hK
       refine za fun Z63 hZ63 => ?_
       refine zo rfl ?_;apply zy;apply hZ55
       refine rdE [2, 3, 27, 28, 29] fun K hK => ?_
       refine DW.start (T := tab) [.any, .any, .any, .any, .own 1 [], .at [], .eff, .eff, .any, .any, .eff] [(1, [])] ?_;refine DW.runN tok 8 ?_;simp only [go_sem, qc, qf, qa, qd, qt, reduceCtorEq, zN, z6, q9, qY, true_and, ue, z8, zO, yj, yB, ua, qW, AV.one, qU, qA, qj, ql, qn, qE];refine DW.runN tok 3 ?_;simp only [go_sem, qc, qf, qa, qd, qj, ql, qn];refine DW.fin tok (by decide +kernel) rfl ?_;simp only [zp, upd, qa, reduceIte, yP, xG];apply hK
       apply hZ51
       refine rgE tok [2, 3, 27, 28, 29] fun K hK => ?_
       simp only [go_sem, qc, qa];apply hK
       exact ⟨_, _, _, (Nat.lt_succ_of_le (Nat.le_of_eq (qn rounds))), ⟨rounds, [(⟨y52.fTag, l56⟩ : GValueEntry)], IntKind.i64.wrap (0 + 1), 0, rfl, rfl, rfl, h⟩, (.t [0, 1, 5] false)⟩
     obtain ⟨hz62, hw62, hx62, hE'62, hi'62⟩ := zX hE62 hi62 hb62;simp only [zL.l62] at h
     refine rg tok [2, 3, 6, 27, 28, 29, 37, 38, 39, 40] fun K hK => ?_
     simp only [go_sem, qc, qa, hz62];apply hK
     refine za fun Z64 hZ64 => ?_
     refine zq rfl ?_;apply zd;apply hZ64
     refine za fun Z65 hZ65 => ?_
     apply ze;have f66 := E90.idxS hx62;have f67 := E90.loadS rfl rfl hx62
     refine rg tok [2, 3, 6, 8, 27, 28, 29, 37, 38, 39] fun K hK => ?_
     simp only [go_sem, qc, qf, qa, qd, cellsGTree, yp, f66, f67];apply hK
     obtain ⟨r68, hr68, h⟩ := bind_some h;have f69 := ZG r68;unfold AV.one at f69;obtain ⟨_u70, hu70, h⟩ := bind_some h;have gu70 := yi hu70;have f71 := (zv E156.len l56)
     refine rdE [2, 3, 6, 27, 28, 29, 37, 38, 39] fun K hK => ?_
     refine DW.start (T := tab) [.any, .own 2 [], .at [], .eff, .eff, .eff, .any, .eff] [(2, [])] ?_;refine DW.runN tok 3 ?_;simp only [go_sem, qc, qf, qa, qd, encGValueValue, qj, ql, qn];refine DW.call rfl rfl rfl (ev_value_made y62 r68 hr68 _) ?_;refine DW.runN tok 4 ?_;simp only [go_sem, qc, qf, qa, qd, qt, zN, z6, q9, qY, true_and, ue, z8, zO, yj, encGValueValue, f69, gu70, f71, yB, ua, qW, AV.one, qU, qA, qj, ql, qn, qE];refine DW.fin tok (by decide +kernel) rfl ?_;simp only [zp, upd, qa, reduceIte, yP, xG];apply hK
     apply hZ65
     refine rgE tok [2, 3, 6, 27, 28, 29, 37, 38, 39] fun K hK => ?_
     simp only [go_sem, qc, qa, hw62];apply hK
     exact ⟨_, _, _, qs q62.length, ⟨p62 ++ [y62], q62, x58 + 1, l56 ++ [r68], v57 + 1, rfl, rfl, rfl, hE'62, hi'62, h⟩, (.t [0, 1, 2, 3] false)⟩
   rw [if_neg hc49] at h;have t72 := eq_false hc49;apply zy;apply hZ13
   refine rg tok [2] fun K hK => ?_
   simp only [go_sem, qc, qf, qa, t72];apply hK
   cases h;exact rtA
 clear h
 rintro m L τ ⟨k20, l14, x16, v15, rfl, rfl, rfl, h⟩
 rcases k20 with _ | k20
 · cases h
 simp only [zL.l20] at h;refine rgN [2, 3, 27, 28, 29, 30] ?_
 refine za fun Z21 hZ21 => ?_
 refine zw rfl (fun hc22 => ?_) (fun hc22 => ?_)
 · rw [if_pos hc22] at h;have t23 := eq_true hc22;apply zd;apply hZ21
   refine za fun Z24 hZ24 => ?_
   apply ze;obtain ⟨y25, hy25, h⟩ := bind_some h;have f26 := E27.idxS hy25;have f27 := E27.loadS rfl rfl hy25
   refine rg tok [2, 3, 5, 27, 28, 29] fun K hK => ?_
   simp only [go_sem, qc, qf, qa, qd, cellsGEntry, yg, t23, f26, f27];apply hK
   refine rgN [2, 3, 5, 6, 27, 28, 29] ?_;refine Zr 4 1 1 rfl (by simp) rfl (L := [(2, .op 0 0 0), (3, .op 1 0 0), (5, .op 3 0 0), (6, .op 4 0 0), (27, .ds true (qe encGEntry a0.fEntries) (qb a0.fEntries) false), (28, .int .i64 (qb a0.fEntries : Int)), (29, .int .i64 x16)]) (τ := [.cells 0 [.nilI], .cells 0 [.os true 2 2 v15 0 (qb l14) false, .ds true (qe encGRaw r12) (qb r12) false], .cells v15 (qe encGValueEntry l14), .cells 0 (cellsGEntry y25), .cells 0 [.int .i64 y25.fTag, .os true 1 5 0 0 (qb ([] : List GValueValue)) false], .cells 0 (qe encGValueValue ([] : List GValueValue))]) .s ?_
   refine za fun Z28 hZ28 => ?_
   refine rgN [2, 3, 6, 27, 28, 29, 37, 38, 39] ?_;apply ze
   refine yU 37 fun hb35 => ?_
   replace hb35 : qb y25.fTrees ≤ 9223372036854775807 := hb35.1;refine zr (fun m L τ => ∃ (p35 q35 : List GTree) (x31 : Int) (l29 : List GValueValue) (v30 : Nat), m = qb q35 ∧ L = [(2, .op 0 0 0), (3, .op 1 0 0), (6, .op 3 0 0), (27, .ds true (qe encGEntry a0.fEntries) (qb a0.fEntries) false), (28, .int .i64 (qb a0.fEntries : Int)), (29, .int .i64 x16), (37, .ds true (qe encGTree y25.fTrees) (qb y25.fTrees) false), (38, .int .i64 (qb y25.fTrees : Int)), (39, .int .i64 x31)] ∧ τ = [.cells 0 [.nilI], .cells 0 [.os true 2 2 v15 0 (qb l14) false, .ds true (qe encGRaw r12) (qb r12) false], .cells v15 (qe encGValueEntry l14), .cells 0 [.int .i64 y25.fTag, .os true 1 4 v30 0 (qb l29) false], .cells v30 (qe encGValueValue l29)] ∧ y25.fTrees = p35 ++ q35 ∧ x31 = (qb p35 : Int) ∧ zL.l35 yv l14 x16 (zL.l20 yv a0 r12 k20) y25 q35 x31 l29 = some r) _ ⟨[], y25.fTrees, 0, ([] : List GValueValue), 0, rfl, rfl, rfl, rfl, rfl, h⟩ (.t [0, 1, 2, 4, 5] false) ?_;rintro m L τ ⟨p35, q35, x31, l29, v30, rfl, rfl, rfl, hE35, hi35, h⟩
   rcases q35 with _ | ⟨y35, q35⟩
   · have hz35 := yq hE35 hi35;simp only [zL.l35] at h
     refine rg tok [2, 3, 6, 27, 28, 29, 37, 38, 39, 40] fun K hK => ?_
     simp only [go_sem, qc, qa, hz35];apply hK
     refine za fun Z36 hZ36 => ?_
     refine zo rfl ?_;apply zy;apply hZ28;obtain ⟨_u37, hu37, h⟩ := bind_some h;have gu37 := yi hu37;have f38 := (zv E190.len l14)
     refine rdE [2, 3, 27, 28, 29] fun K hK => ?_
     refine DW.start (T := tab) [.any, .any, .any, .any, .own 1 [], .at [], .eff, .eff, .any, .any, .eff] [(1, [])] ?_;refine DW.runN tok 8 ?_;simp only [go_sem, qc, qf, qa, qd, qt, zN, z6, q9, qY, true_and, ue, z8, zO, yj, gu37, f38, yB, ua, qW, AV.one, qU, qA, qj, ql, qn, qE];refine DW.runN tok 3 ?_;simp only [go_sem, qc, qf, qa, qd, qj, ql, qn];refine DW.fin tok (by decide +kernel) rfl ?_;simp only [zp, upd, qa, reduceIte, yP, xG];apply hK
     apply hZ24
     refine rgE tok [2, 3, 27, 28, 29] fun K hK => ?_
     simp only [go_sem, qc, qa];apply hK
     exact ⟨_, _, _, qs (0 + k20), ⟨k20, l14 ++ [(⟨y25.fTag, l29⟩ : GValueEntry)], IntKind.i64.wrap (x16 + 1), v15 + 1, rfl, rfl, rfl, h⟩, (.t [0, 1, 2] false)⟩
   obtain ⟨hz35, hw35, hx35, hE'35, hi'35⟩ := zX hE35 hi35 hb35;simp only [zL.l35] at h
   refine rg tok [2, 3, 6, 27, 28, 29, 37, 38, 39, 40] fun K hK => ?_
   simp only [go_sem, qc, qa, hz35];apply hK
   refine za fun Z39 hZ39 => ?_
   refine zq rfl ?_;apply zd;apply hZ39
   refine za fun Z40 hZ40 => ?_
   apply ze;have f41 := E90.idxS hx35;have f42 := E90.loadS rfl rfl hx35
   refine rg tok [2, 3, 6, 8, 27, 28, 29, 37, 38, 39] fun K hK => ?_
   simp only [go_sem, qc, qf, qa, qd, cellsGTree, yp, f41, f42];apply hK
   obtain ⟨r43, hr43, h⟩ := bind_some h;have f44 := ZG r43;unfold AV.one at f44;obtain ⟨_u45, hu45, h⟩ := bind_some h;have gu45 := yi hu45;have f46 := (zv E156.len l29)
   refine rdE [2, 3, 6, 27, 28, 29, 37, 38, 39] fun K hK => ?_
   refine DW.start (T := tab) [.any, .own 2 [], .at [], .eff, .eff, .eff, .any, .eff] [(2, [])] ?_;refine DW.runN tok 3 ?_;simp only [go_sem, qc, qf, qa, qd, encGValueValue, qj, ql, qn];refine DW.call rfl rfl rfl (ev_value_made y35 r43 hr43 _) ?_;refine DW.runN tok 4 ?_;simp only [go_sem, qc, qf, qa, qd, qt, zN, z6, q9, qY, true_and, ue, z8, zO, yj, encGValueValue, f44, gu45, f46, yB, ua, qW, AV.one, qU, qA, qj, ql, qn, qE];refine DW.fin tok (by decide +kernel) rfl ?_;simp only [zp, upd, qa, reduceIte, yP, xG];apply hK
   apply hZ40
   refine rgE tok [2, 3, 6, 27, 28, 29, 37, 38, 39] fun K hK => ?_
   simp only [go_sem, qc, qa, hw35];apply hK
   exact ⟨_, _, _, qs q35.length, ⟨p35 ++ [y35], q35, x31 + 1, l29 ++ [r43], v30 + 1, rfl, rfl, rfl, hE'35, hi'35, h⟩, (.t [0, 1, 2, 3, 4] false)⟩
 rw [if_neg hc22] at h;have t47 := eq_false hc22;apply zy;apply hZ13
 refine rg tok [2] fun K hK => ?_
 simp only [go_sem, qc, qf, qa, t47];apply hK
 cases h;exact rtA
def zL : Nat → GTree → Option GValueValue
 | 0, _ => none
 | k + 1, a0 => zL.body (zL k) a0
theorem zL.all (k : Nat) : (∀ (a0 : GTree) (r : GValueValue), zL k a0 = some r → ACalls qh 97 [.agg (cellsGTree a0)] [] (fun r' _ => r' = .agg (encGValueValue r))) := by
 induction k with
 | zero => exact (fun a0 r h => by simp only [zL] at h; cases h)
 | succ k ih => exact (fun a0 r h => zL.step _ ih a0 r (by simpa only [zL] using h))
theorem zL.ev (k : Nat) (a0 : GTree) (r : GValueValue) (h : zL k a0 = some r) (σ : Store) : ACalls qh 97 [.agg (cellsGTree a0)] σ (fun r' σ' => r' = .agg (encGValueValue r) ∧ σ' = σ) :=
 ((zL.all k) a0 r h).c σ
def ZQ (a0 : GTree) : Option (GValueValue × Bool) :=
 (wD a0).bind fun r2 => (if (!r2) = true then some (GValueValue.nil, false) else (zL rounds a0).bind fun r4 => some (r4, true))
theorem ZQ.ok (a0 : GTree) (r : GValueValue × Bool) (h : ZQ a0 = some r) : ACalls qh 57 [.agg (cellsGTree a0)] [] (fun r' _ => r' = .tup [.agg (encGValueValue r.1), .bool r.2]) := by
 refine zf (rs := [.cell 2 110, .tmp 3]) tok Tryz.func57 rfl Tryz.ntmps57 rfl Tryz.call57 (by simp) ?_;refine zl [(0, .agg (cellsGTree a0))] ⟨rfl, trivial⟩ ?_;unfold ZQ at h
 refine rg tok [1, 2] fun K hK => ?_
 simp only [go_sem, qc, qa, qd, reduceCtorEq, cellsGTree];apply hK
 refine za fun Z1 hZ1 => ?_
 refine rc [1, 2, 6] fun K hK => ?_
 obtain ⟨r2, hr2, h⟩ := bind_some h;refine rnN 1 ?_;refine clN rfl rfl rfl (wD.ev a0 r2 hr2 _) ?_;refine rnN 1 ?_;refine nkN hK ?_;refine zn (b := (!r2)) rfl (fun hc3 => ?_) (fun hc3 => ?_)
 · rw [if_pos hc3] at h;refine rgN [2, 3] ?_;cases h;exact rtA
 rw [xP hc3] at h;apply zd;apply hZ1
 refine rc [2, 3] fun K hK => ?_
 obtain ⟨r4, hr4, h⟩ := bind_some h;refine rnN 1 ?_;refine clN rfl rfl rfl (zL.ev rounds a0 r4 hr4 _) ?_;have f5 := ZG r4;unfold AV.one at f5;refine zj tok 2 ?_;simp only [go_sem, qc, qf, qa, encGValueValue, f5];refine nkN hK ?_;cases h;exact rtA
theorem ZQ.ev (a0 : GTree) (r : GValueValue × Bool) (h : ZQ a0 = some r) (σ : Store) : ACalls qh 57 [.agg (cellsGTree a0)] σ (fun r' σ' => r' = .tup [.agg (encGValueValue r.1), .bool r.2] ∧ σ' = σ) :=
 (ZQ.ok a0 r h).c σ
def yE (a0 : GValueValue) : Option GValueNode :=
 (match a0 with | .nil => none | .num n2 => none | .str s2 => none | .node e2 r2 => some (⟨e2, r2⟩ : GValueNode))
theorem yE.ok (a0 : GValueValue) (r : GValueNode) (h : yE a0 = some r) : ACalls qh 59 [.agg (encGValueValue a0)] [] (fun r' _ => r' = .dp (encGValueNode r) 0) := by
 refine zf (rs := [.tmp 2]) tok Tryz.func59 rfl Tryz.ntmps59 rfl Tryz.call59 (by simp) ?_;refine zl [(0, .agg (encGValueValue a0))] ⟨rfl, trivial⟩ ?_;unfold yE at h;have f1 := ZG a0;unfold AV.one at f1
 refine rg tok [1] fun K hK => ?_
 simp only [go_sem, qc, qa, reduceCtorEq, encGValueValue, f1];apply hK
 rcases a0 with _ | n2 | s2 | ⟨e2, r2⟩
 · dsimp only at h
   try simp only [vbq]
   cases h
 · dsimp only at h
   try simp only [vbp]
   cases h
 · dsimp only at h
   try simp only [vbo]
   cases h
 dsimp only at h
 try simp only [Xx]
 refine rg tok [2] fun K hK => ?_
 simp only [go_sem, qc, qa, xV, wb, TypeDesc.isIface];apply hK
 cases h;exact rtA
theorem yE.ev (a0 : GValueValue) (r : GValueNode) (h : yE a0 = some r) (σ : Store) : ACalls qh 59 [.agg (encGValueValue a0)] σ (fun r' σ' => r' = .dp (encGValueNode r) 0 ∧ σ' = σ) :=
 (yE.ok a0 r h).c σ
def wJ (a0 : GValueNode) : Option (List GRaw) :=
 (yQ a0.frest).bind fun r1 => some r1
theorem wJ.own (a0 : GValueNode) (r : List GRaw) (h : wJ a0 = some r) : ACalls qh 98 [.dp (encGValueNode a0) 0] [] (fun r' σ' => r' = .os true 4 0 0 0 (qb r) false ∧ σ' = [.cells 0 (qe encGRaw r)]) := by
 refine ACalls.own0 (by simp only [push_cast]) ?_;refine ZL (rs := [.tmp 2]) tok Tryz.func98 rfl Tryz.ntmps98 rfl Tryz.call98 (by simp) ?_;refine zl [(0, .dp (encGValueNode a0) 0)] ⟨rfl, trivial⟩ ?_;unfold wJ at h;refine rgN [0] ?_
 refine rc [2] fun K hK => ?_
 obtain ⟨r1, hr1, h⟩ := bind_some h;refine zj tok 4 ?_;simp only [go_sem, qc, qa, qd, reduceCtorEq, encGValueNode, vai];refine clN rfl rfl rfl (@id (ACalls qh 135 [.ds true (qe encGRaw a0.frest) (qb a0.frest) false] [] (fun r' σ' => r' = .os true 4 0 0 0 (qb r1) false ∧ σ' = [.cells 0 (qe encGRaw r1)])) ((yQ.own a0.frest r1 hr1).ownAt0 (by simp only [push_cast]) (by simp only [push_cast]) _)) ?_;refine rnN 1 ?_;refine nkN hK ?_;apply yA;cases h;simp only [ZC, yV, xe, xQ, exists_eq_left', go_sem];refine ⟨0, 0, by simp, ?_, ?_⟩
 · first | rfl | (simp only [go_sem, qc, qf, qa, qd, qt, qG, reduceIte, reduceCtorEq, push_cast, if_true, qB, qn, qD, qw, qC, qO, qS, qQ, qP, qL, qz, zH, encGRaw] <;> rfl)
 first | rfl | (simp only [go_sem, push_cast, qw, zH] <;> rfl)
def z7.l8 : List GValueEntry → Int → List Int → Option (List Int)
 | [], x4, l2 => some l2
 | y8 :: q8, x4, l2 => (Yf (qb l2 + 1) 8).bind fun _u14 => ((z7.l8 q8) (x4 + 1) (l2 ++ [y8.ftag]))
def z7 (a0 : GValueNode) : Option (List Int) :=
 (z7.l8 a0.fentries 0 ([] : List Int))
theorem z7.own (a0 : GValueNode) (r : List Int) (h : z7 a0 = some r) : ACalls qh 99 [.dp (encGValueNode a0) 0] [] (fun r' σ' => r' = .os true 1 0 0 0 (qb r) false ∧ σ' = [.cells 0 (qe encI r)]) := by
 refine ACalls.own0 (by simp only [push_cast]) ?_;refine ZL (rs := [.tmp 2]) tok Tryz.func99 rfl Tryz.ntmps99 rfl Tryz.call99 (by simp) ?_;refine zl [(0, .dp (encGValueNode a0) 0)] ⟨rfl, trivial⟩ ?_;unfold z7 at h;refine rgN [0] ?_;refine rgN [0, 3] ?_;refine wN 3 1 rfl ?_;refine zV (L := [(0, .dp (encGValueNode a0) 0), (3, .os true 1 0 0 0 (qb ([] : List Int)) false)]) (τ := [.cells 0 (qe encI ([] : List Int))]) .s ?_
 refine za fun Z1 hZ1 => ?_
 refine rg tok [3, 9, 10, 11] fun K hK => ?_
 simp only [go_sem, qc, qa, qd, reduceCtorEq, encGValueNode, vai];apply hK
 apply ze
 refine yU 9 fun hb8 => ?_
 replace hb8 : qb a0.fentries ≤ 9223372036854775807 := hb8.1;refine zr (fun m L τ => ∃ (p8 q8 : List GValueEntry) (x4 : Int) (l2 : List Int) (v3 : Nat), m = qb q8 ∧ L = [(3, .os true 1 0 v3 0 (qb l2) false), (9, .ds true (qe encGValueEntry a0.fentries) (qb a0.fentries) false), (10, .int .i64 (qb a0.fentries : Int)), (11, .int .i64 x4)] ∧ τ = [.cells v3 (qe encI l2)] ∧ a0.fentries = p8 ++ q8 ∧ x4 = (qb p8 : Int) ∧ z7.l8 q8 x4 l2 = some r) _ ⟨[], a0.fentries, 0, ([] : List Int), 0, rfl, rfl, rfl, rfl, rfl, h⟩ .s ?_;rintro m L τ ⟨p8, q8, x4, l2, v3, rfl, rfl, rfl, hE8, hi8, h⟩
 rcases q8 with _ | ⟨y8, q8⟩
 · have hz8 := yq hE8 hi8;simp only [z7.l8] at h
   refine rg tok [3, 9, 10, 11, 12] fun K hK => ?_
   simp only [go_sem, qc, qa, hz8];apply hK
   refine za fun Z9 hZ9 => ?_
   refine zo rfl ?_;apply zy;apply hZ1;refine rgN [2] ?_;apply yA;cases h;simp only [ZC, yV, xe, xQ, exists_eq_left', go_sem];refine ⟨0, v3, by simp, ?_, ?_⟩
   · first | rfl | (simp only [go_sem, qc, qf, qa, qd, qt, qG, reduceIte, reduceCtorEq, push_cast, if_true, qB, qn, qD, qw, qC, qO, qS, qQ, qP, qL, qz, zH] <;> rfl)
   first | rfl | (simp only [go_sem, push_cast, qw, zH] <;> rfl)
 obtain ⟨hz8, hw8, hx8, hE'8, hi'8⟩ := zX hE8 hi8 hb8;simp only [z7.l8] at h
 refine rg tok [3, 9, 10, 11, 12] fun K hK => ?_
 simp only [go_sem, qc, qa, hz8];apply hK
 refine za fun Z10 hZ10 => ?_
 refine zq rfl ?_;apply zd;apply hZ10
 refine za fun Z11 hZ11 => ?_
 apply ze;have f12 := E190.idxS hx8;have f13 := E190.loadS rfl rfl hx8
 refine rg tok [3, 5, 9, 10, 11] fun K hK => ?_
 simp only [go_sem, qc, qf, qa, qd, cellsGValueEntry, xT, f12, f13];apply hK
 obtain ⟨_u14, hu14, h⟩ := bind_some h;have gu14 := yi hu14;have f15 := (zv E45.len l2)
 refine rgE tok [3, 9, 10, 11] fun K hK => ?_
 simp only [go_sem, qc, qf, qa, qd, qt, zN, z6, q9, qY, true_and, ue, z8, zO, yj, gu14, f15, yB, ua, qW, AV.one, qU, qA, qj, ql, qn, qE];apply hK
 apply hZ11
 refine rgE tok [3, 9, 10, 11] fun K hK => ?_
 simp only [go_sem, qc, qa, hw8];apply hK
 exact ⟨_, _, _, qs q8.length, ⟨p8 ++ [y8], q8, x4 + 1, l2 ++ [y8.ftag], v3 + 1, rfl, rfl, rfl, hE'8, hi'8, h⟩, (.t [0] false)⟩
end
section
set_option maxRecDepth 4000
set_option maxHeartbeats 1000000
open AM
theorem z7.ok (a0 : GValueNode) (r : List Int) (h : z7 a0 = some r) : ACalls qh 99 [.dp (encGValueNode a0) 0] [] (fun r' _ => r' = .ds true (qe encI r) (qb r) false) :=
 (z7.own a0 r h).ownData (zv E45.len r) (by simp only [push_cast])
theorem z7.ev (a0 : GValueNode) (r : List Int) (h : z7 a0 = some r) (σ : Store) : ACalls qh 99 [.dp (encGValueNode a0) 0] σ (fun r' σ' => r' = .ds true (qe encI r) (qb r) false ∧ σ' = σ) :=
 (z7.ok a0 r h).c σ
def ww (a0 : List GValueValue) : Option (List GValueValue) := (Yf (qb a0) 16).bind fun _ => some a0
theorem ww.own (a0 r : List GValueValue) (h : ww a0 = some r) : ACalls qh 136 [.ds true (qe encGValueValue a0) (qb a0) false] [] (fun r' σ' => r' = .os true 1 0 0 0 (qb r) false ∧ σ' = [.cells 0 (qe encGValueValue r)]) := by
 obtain ⟨_u, hu, h⟩ := bind_some h;have gu := yi hu;cases h
 have f1 := fun nl tt σ => xK E156.len a0 nl tt σ
 have f2 := zv E156.len a0;have f3 := Ze encGValueValue a0;refine vcf (rs := [.tmp 2]) tok Tryz.func136 rfl Tryz.ntmps136 rfl Tryz.call136 (by simp) ?_;refine zl [(0, .ds true (qe encGValueValue a0) (qb a0) false)] ⟨rfl, trivial⟩ ?_;refine rgN [0] ?_
 refine za fun Z1 hZ1 => ?_
 refine rc [0, 4] fun K hK => ?_
 refine rnN 1 ?_
 refine vaG tok rfl rfl rfl rfl rfl rfl fun b hnil => ?_
 have hb : b = true → a0 = [] := fun hb => by
  have := hnil hb;simp only [yj, go_sem, reduceCtorEq] at this;exact u0 this
 clear hnil
 refine nkN hK ?_;cases b
 · refine zo rfl ?_;apply zd;apply hZ1
   refine rg tok [2] fun K hK => ?_
   by_cases h0 : qb a0 = 0
   · obtain rfl := u0 h0;simp only [go_sem, qc, qa, reduceCtorEq, zN, z6, qY, uk, z8, zO, yj, yn, ui, ql, uC, ua];apply hK
     apply yA;simp only [ZC, yV, xe, xQ, exists_eq_left', go_sem];refine .inl ⟨0, true, by simp, ?_, ?_⟩
     · first | rfl | (simp only [go_sem, qc, qf, qa, qd, qt, qG, reduceIte, reduceCtorEq, Zw, Zf, if_true] <;> rfl)
     first | rfl | (simp only [go_sem, qc, qf, qa, qd, qt, qG, reduceIte, reduceCtorEq, YB, vbA, Yg, YD, YC, qw] <;> rfl)
   have h1 := eq_false h0;simp only [go_sem, qc, qa, reduceCtorEq, zN, z6, qY, uk, z8, zO, yj, f1, f3, h1, gu, yB, qw, qA, uC];apply hK
   apply yA;simp only [ZC, yV, xe, xQ, exists_eq_left', go_sem, qd];refine .inl ⟨1, false, by simp, ?_, ?_⟩
   · first | rfl | (simp only [go_sem, qc, qf, qa, qd, qt, qG, reduceIte, reduceCtorEq, Zw, Zf, if_true] <;> rfl)
   first | rfl | (simp only [go_sem, YB, Yg, YD, YC, zH] <;> rfl)
 obtain rfl := hb rfl;refine zq rfl ?_;refine rgN [2] ?_;apply yA;simp only [ZC, yV, xe, xQ, exists_eq_left', go_sem];refine .inr ?_
 first | rfl | (simp only [go_sem, qc, qf, qa, qd, qt, qG, reduceIte, reduceCtorEq, Y2, qw, qO, qS, qz, qQ] <;> rfl)
def yw.l4 (a1 : Int) : List GValueEntry → Int → Option (List GValueValue)
 | [], x2 => some ([] : List GValueValue)
 | y4 :: q4, x2 => (if y4.ftag = a1 then (ww y4.fl).bind fun r12 => some r12 else ((yw.l4 a1 q4) (x2 + 1)))
def yw (a0 : GValueNode) (a1 : Int) : Option (List GValueValue) :=
 (yw.l4 a1 a0.fentries 0)
theorem yw.ok (a0 : GValueNode) (a1 : Int) (r : List GValueValue) (h : yw a0 a1 = some r) : ACalls qh 100 [.dp (encGValueNode a0) 0, .int .i64 a1] [] (fun r' _ => r' = .ds true (qe encGValueValue r) (qb r) false) := by
 refine zf (rs := [.tmp 4]) tok Tryz.func100 rfl Tryz.ntmps100 rfl Tryz.call100 (by simp) ?_;refine zl [(0, .dp (encGValueNode a0) 0), (1, .int .i64 a1)] ⟨rfl, rfl, trivial⟩ ?_;unfold yw at h;refine rgN [0, 1] ?_
 refine za fun Z1 hZ1 => ?_
 refine rg tok [1, 10, 11, 12] fun K hK => ?_
 simp only [go_sem, qc, qa, qd, reduceCtorEq, encGValueNode, vai];apply hK
 apply ze
 refine yU 10 fun hb4 => ?_
 replace hb4 : qb a0.fentries ≤ 9223372036854775807 := hb4.1;refine zr (fun m L τ => ∃ (p4 q4 : List GValueEntry) (x2 : Int), m = qb q4 ∧ L = [(1, .int .i64 a1), (10, .ds true (qe encGValueEntry a0.fentries) (qb a0.fentries) false), (11, .int .i64 (qb a0.fentries : Int)), (12, .int .i64 x2)] ∧ τ = [] ∧ a0.fentries = p4 ++ q4 ∧ x2 = (qb p4 : Int) ∧ yw.l4 a1 q4 x2 = some r) _ ⟨[], a0.fentries, 0, rfl, rfl, rfl, rfl, rfl, h⟩ .s ?_;rintro m L τ ⟨p4, q4, x2, rfl, rfl, rfl, hE4, hi4, h⟩
 rcases q4 with _ | ⟨y4, q4⟩
 · have hz4 := yq hE4 hi4;simp only [yw.l4] at h
   refine rg tok [1, 10, 11, 12, 13] fun K hK => ?_
   simp only [go_sem, qc, qa, hz4];apply hK
   refine za fun Z5 hZ5 => ?_
   refine zo rfl ?_;apply zy;apply hZ1;refine rgN [4] ?_;cases h;exact rtA
 obtain ⟨hz4, hw4, hx4, hE'4, hi'4⟩ := zX hE4 hi4 hb4;simp only [yw.l4] at h
 refine rg tok [1, 10, 11, 12, 13] fun K hK => ?_
 simp only [go_sem, qc, qa, hz4];apply hK
 refine za fun Z6 hZ6 => ?_
 refine zq rfl ?_;apply zd;apply hZ6
 refine za fun Z7 hZ7 => ?_
 apply ze;have f8 := E190.idxS hx4;have f9 := E190.loadS rfl rfl hx4
 refine rg tok [1, 6, 10, 11, 12] fun K hK => ?_
 simp only [go_sem, qc, qf, qa, qd, cellsGValueEntry, xT, f8, f9];apply hK
 refine rgN [1, 6, 10, 11, 12, 19] ?_;refine zw rfl (fun hc10 => ?_) (fun hc10 => ?_)
 · rw [if_pos hc10] at h;have t11 := eq_true hc10
   refine rc [4] fun K hK => ?_
   obtain ⟨r12, hr12, h⟩ := bind_some h;refine zj tok 2 ?_;simp only [go_sem, qc, qa, qd, t11];refine clN rfl rfl rfl (@id (ACalls qh 136 [.ds true (qe encGValueValue y4.fl) (qb y4.fl) false] [.cells 0 (cellsGValueEntry y4)] (fun r' σ' => r' = .os true 1 1 0 0 (qb r12) false ∧ σ' = [.cells 0 (cellsGValueEntry y4), .cells 0 (qe encGValueValue r12)])) ((ww.own y4.fl r12 hr12).ownAt0 (by simp only [push_cast]) (by simp only [push_cast]) _)) ?_;refine rnN 1 ?_;refine nkN hK ?_;cases h;exact rtA
 rw [if_neg hc10] at h;have t13 := eq_false hc10;apply zd;apply hZ7
 refine rgE tok [1, 10, 11, 12] fun K hK => ?_
 simp only [go_sem, qc, qa, hw4, t13];apply hK
 exact ⟨_, _, _, qs q4.length, ⟨p4 ++ [y4], q4, x2 + 1, rfl, rfl, rfl, hE'4, hi'4, h⟩, (.t [] false)⟩
theorem yw.ev (a0 : GValueNode) (a1 : Int) (r : List GValueValue) (h : yw a0 a1 = some r) (σ : Store) : ACalls qh 100 [.dp (encGValueNode a0) 0, .int .i64 a1] σ (fun r' σ' => r' = .ds true (qe encGValueValue r) (qb r) false ∧ σ' = σ) :=
 (yw.ok a0 a1 r h).c σ
def xJ (a0 : GValueValue) : Int × Bool :=
 (match a0 with | .nil => (0, false) | .num n2 => (n2, true) | .str s2 => (0, false) | .node e2 r2 => (0, false))
theorem xJ.ok (a0 : GValueValue) (r : Int × Bool) (h : xJ a0 = r) : ACalls qh 155 [.agg (encGValueValue a0)] [] (fun r' _ => r' = .tup [.int .i64 r.1, .bool r.2]) := by
 refine zf (rs := [.tmp 2, .tmp 3]) tok Tryz.func155 rfl Tryz.ntmps155 rfl Tryz.call155 (by simp) ?_;refine zl [(0, .agg (encGValueValue a0))] ⟨rfl, trivial⟩ ?_;unfold xJ at h;have f1 := ZG a0;unfold AV.one at f1
 refine rg tok [1] fun K hK => ?_
 simp only [go_sem, qc, qa, reduceCtorEq, encGValueValue, f1];apply hK
 rcases a0 with _ | n2 | s2 | ⟨e2, r2⟩
 · dsimp only at h
   try simp only [vbq]
   refine rg tok [4, 5] fun K hK => ?_
   simp only [go_sem, qc, qa, qd, xV, wb, TypeDesc.isIface];apply hK
   refine rgN [2, 3] ?_;cases h;exact rtA
 · dsimp only at h
   try simp only [vbp]
   refine rg tok [4, 5] fun K hK => ?_
   simp only [go_sem, qc, qa, qd, xV, wb, TypeDesc.isIface];apply hK
   refine rgN [2, 3] ?_;cases h;exact rtA
 · dsimp only at h
   try simp only [vbo]
   refine rg tok [4, 5] fun K hK => ?_
   simp only [go_sem, qc, qa, qd, xV, wb, TypeDesc.isIface];apply hK
   refine rgN [2, 3] ?_;cases h;exact rtA
 dsimp only at h
 try simp only [Xx]
 refine rg tok [4, 5] fun K hK => ?_
 simp only [go_sem, qc, qa, qd, xV, wb, TypeDesc.isIface];apply hK
 refine rgN [2, 3] ?_;cases h;exact rtA
theorem xJ.ev (a0 : GValueValue) (r : Int × Bool) (h : xJ a0 = r) (σ : Store) : ACalls qh 155 [.agg (encGValueValue a0)] σ (fun r' σ' => r' = .tup [.int .i64 r.1, .bool r.2] ∧ σ' = σ) :=
 (xJ.ok a0 r h).c σ
def xI (a0 : GValueValue) : List UInt8 × Bool :=
 (match a0 with | .nil => ([], false) | .num n2 => ([], false) | .str s2 => (s2, true) | .node e2 r2 => ([], false))
theorem xI.ok (a0 : GValueValue) (r : List UInt8 × Bool) (h : xI a0 = r) : ACalls qh 156 [.agg (encGValueValue a0)] [] (fun r' _ => r' = .tup [.str r.1, .bool r.2]) := by
 refine zf (rs := [.tmp 2, .tmp 3]) tok Tryz.func156 rfl Tryz.ntmps156 rfl Tryz.call156 (by simp) ?_;refine zl [(0, .agg (encGValueValue a0))] ⟨rfl, trivial⟩ ?_;unfold xI at h;have f1 := ZG a0;unfold AV.one at f1
 refine rg tok [1] fun K hK => ?_
 simp only [go_sem, qc, qa, reduceCtorEq, encGValueValue, f1];apply hK
 rcases a0 with _ | n2 | s2 | ⟨e2, r2⟩
 · dsimp only at h
   try simp only [vbq]
   refine rg tok [4, 5] fun K hK => ?_
   simp only [go_sem, qc, qa, qd, xV, wb, TypeDesc.isIface];apply hK
   refine rgN [2, 3] ?_;cases h;exact rtA
 · dsimp only at h
   try simp only [vbp]
   refine rg tok [4, 5] fun K hK => ?_
   simp only [go_sem, qc, qa, qd, xV, wb, TypeDesc.isIface];apply hK
   refine rgN [2, 3] ?_;cases h;exact rtA
 · dsimp only at h
   try simp only [vbo]
   refine rg tok [4, 5] fun K hK => ?_
   simp only [go_sem, qc, qa, qd, xV, wb, TypeDesc.isIface];apply hK
   refine rgN [2, 3] ?_;cases h;exact rtA
 dsimp only at h
 try simp only [Xx]
 refine rg tok [4, 5] fun K hK => ?_
 simp only [go_sem, qc, qa, qd, xV, wb, TypeDesc.isIface];apply hK
 refine rgN [2, 3] ?_;cases h;exact rtA
theorem xI.ev (a0 : GValueValue) (r : List UInt8 × Bool) (h : xI a0 = r) (σ : Store) : ACalls qh 156 [.agg (encGValueValue a0)] σ (fun r' σ' => r' = .tup [.str r.1, .bool r.2] ∧ σ' = σ) :=
 (xI.ok a0 r h).c σ
def wg (a0 : GValueValue) : Option GValueValue :=
 bnd (xJ a0) fun r3 => (if r3.2 = true then some (GValueValue.num r3.1) else bnd (xI a0) fun r6 => (if r6.2 = true then some (GValueValue.str r6.1) else (yE a0).bind fun r8 => some (GValueValue.node r8.fentries r8.frest)))
theorem wg.ok (a0 : GValueValue) (r : GValueValue) (h : wg a0 = some r) : ACalls qh 137 [.agg (encGValueValue a0)] [] (fun r' _ => r' = anyV r) := by
 refine zf (rs := [.tmp 2]) tok Tryz.func137 rfl Tryz.ntmps137 rfl Tryz.call137 (by simp) ?_;refine zl [(0, .agg (encGValueValue a0))] ⟨rfl, trivial⟩ ?_;unfold wg at h;have f1 := ZG a0;unfold AV.one at f1
 refine rg tok [1] fun K hK => ?_
 simp only [go_sem, qc, qa, reduceCtorEq, encGValueValue, f1];apply hK
 refine za fun Z2 hZ2 => ?_
 refine rc [1, 3, 4] fun K hK => ?_
 obtain ⟨r3, hr3, h⟩ := zS h;refine rnN 1 ?_;refine clN rfl rfl rfl (xJ.ev a0 r3 hr3 _) ?_;refine rnN 5 ?_;refine nkN hK ?_;refine rgN [1, 3, 12] ?_;refine zn (b := r3.2) rfl (fun hc4 => ?_) (fun hc4 => ?_)
 · rw [if_pos hc4] at h;refine rgN [2] ?_;cases h;exact rtA
 rw [xP hc4] at h;apply zd;apply hZ2
 refine za fun Z5 hZ5 => ?_
 refine rc [1, 5, 6] fun K hK => ?_
 obtain ⟨r6, hr6, h⟩ := zS h;refine rnN 1 ?_;refine clN rfl rfl rfl (xI.ev a0 r6 hr6 _) ?_;refine rnN 5 ?_;refine nkN hK ?_;refine rgN [1, 5, 20] ?_;refine zn (b := r6.2) rfl (fun hc7 => ?_) (fun hc7 => ?_)
 · rw [if_pos hc7] at h;refine rgN [2] ?_;cases h;exact rtA
 rw [xP hc7] at h;apply zd;apply hZ5
 refine rc [2] fun K hK => ?_
 obtain ⟨r8, hr8, h⟩ := bind_some h;refine rnN 1 ?_;refine clN rfl rfl rfl (yE.ev a0 r8 hr8 _) ?_;refine rnN 2 ?_;refine nkN hK ?_;cases h;exact rtA
theorem wg.ev (a0 : GValueValue) (r : GValueValue) (h : wg a0 = some r) (σ : Store) : ACalls qh 137 [.agg (encGValueValue a0)] σ (fun r' σ' => r' = anyV r ∧ σ' = σ) :=
 (wg.ok a0 r h).c σ
def xn.l9 : Nat → List UInt8 → Int → Option (List UInt8)
 | 0, _, _ => none
 | k9 + 1, l3, x5 => (if 128 ≤ x5 then (Yf (qb l3 + 1) 1).bind fun _u14 => ((xn.l9 k9) (l3 ++ [q5 (qH (IntKind.u8.wrap ((uj (qx 8 (IntKind.u8.wrap x5) ||| qx 8 128) : Nat) : Int)))]) (Int.fdiv x5 (2 ^ (min (qH 7) 64)))) else (Yf (qb l3 + 1) 1).bind fun _u18 => some (l3 ++ [q5 (qH (IntKind.u8.wrap x5))]))
def xn (a0 : List UInt8) (a1 : Int) : Option (List UInt8) :=
 (if 128 ≤ a1 then (Yf (qb a0 + 1) 1).bind fun _u24 => (xn.l9 rounds (a0 ++ [q5 (qH (IntKind.u8.wrap ((uj (qx 8 (IntKind.u8.wrap a1) ||| qx 8 128) : Nat) : Int)))]) (Int.fdiv a1 (2 ^ (min (qH 7) 64)))) else (Yf (qb a0 + 1) 1).bind fun _u28 => some (a0 ++ [q5 (qH (IntKind.u8.wrap a1))]))
theorem xn.own (a0 : List UInt8) (a1 : Int) (r : List UInt8) (h : xn a0 a1 = some r) : ACalls qh 89 [.ds true (qe encB a0) (qb a0) false, .int .u64 a1] [] (fun r' σ' => r' = .os true 1 0 0 0 (qb r) false ∧ σ' = [.cells 0 (qe encB r)]) := by
 refine ACalls.own0 (by simp only [push_cast]) ?_;refine ZL (rs := [.tmp 4]) tok Tryz.func89 rfl Tryz.ntmps89 rfl Tryz.call89 (by simp) ?_;refine zl [(0, .ds true (qe encB a0) (qb a0) false), (1, .int .u64 a1)] ⟨rfl, rfl, trivial⟩ ?_;unfold xn at h;refine rgN [0, 1] ?_;have f1 := E34.sl_tight a0 .i64 .i64
 refine rg tok [0, 1] fun K hK => ?_
 simp only [go_sem, qc, qa, reduceCtorEq, f1];apply hK
 refine za fun Z2 hZ2 => ?_
 apply ze;refine awp_loopS1 (fun m L τ => ∃ (k9 : Nat) (l3 : List UInt8) (x5 : Int) (v4 : Nat), m = 0 + k9 ∧ L = [(0, .os true 1 0 v4 0 (qb l3) false), (1, .int .u64 x5)] ∧ τ = [.cells v4 (qe encB l3)] ∧ xn.l9 k9 l3 x5 = some r) (rounds + 1) ?_ ?_
 · refine za fun Z20 hZ20 => ?_
   refine rgN [0, 1, 12] ?_;refine zw rfl (fun hc21 => ?_) (fun hc21 => ?_)
   · rw [if_pos hc21] at h;have t22 := eq_true hc21;apply zd;apply hZ20;apply ze;have f23 := xx (T := tab) (src := 140) (dst := 5) rfl rfl rfl;obtain ⟨_u24, hu24, h⟩ := bind_some h;have gu24 := yi hu24;have f25 := app_tight E34.len a0 (m := 1) (by decide)
     refine rg tok [0, 1] fun K hK => ?_
     simp only [go_sem, qc, qf, qa, qt, reduceCtorEq, zN, z6, q9, qY, true_and, ue, z8, yj, t22, f23, gu24, f25, yB, ua, qW, AV.one, qU, qA, qj, ql, qn, qE];apply hK
     refine zV (L := [(0, .os true 1 1 0 0 (qb (a0 ++ [q5 (qH (IntKind.u8.wrap ((uj (qx 8 (IntKind.u8.wrap a1) ||| qx 8 128) : Nat) : Int)))])) false), (1, .int .u64 a1)]) (τ := [.cells 0 [.int .u8 (IntKind.u8.wrap ((uj (qx 8 (IntKind.u8.wrap a1) ||| qx 8 128) : Nat) : Int))], .cells 0 (qe encB (a0 ++ [q5 (qH (IntKind.u8.wrap ((uj (qx 8 (IntKind.u8.wrap a1) ||| qx 8 128) : Nat) : Int)))]))]) (.same (by first | exact ⟨rfl, rfl, trivial⟩ | rfl | (simp only [go_sem, reduceCtorEq, Fits, qi, qj, ql, qn, and_self] <;> rfl)) (by first | exact ⟨rfl, rfl, trivial⟩ | rfl | (simp only [go_sem, encB, q3, qT, ui, qy, vax] <;> rfl))) ?_
     refine rgE tok [0, 1] fun K hK => ?_
     simp only [go_sem, qc, qa, reduceCtorEq, Yy, Int.reduceLT];apply hK
     exact ⟨_, _, _, (Nat.lt_succ_of_le (Nat.le_of_eq (qn rounds))), ⟨rounds, a0 ++ [q5 (qH (IntKind.u8.wrap ((uj (qx 8 (IntKind.u8.wrap a1) ||| qx 8 128) : Nat) : Int)))], Int.fdiv a1 (2 ^ (min (qH 7) 64)), 0, rfl, rfl, rfl, h⟩, (.t [1] false)⟩
   rw [if_neg hc21] at h;have t26 := eq_false hc21;apply zy;apply hZ2;have f27 := xx (T := tab) (src := 140) (dst := 5) rfl rfl rfl;obtain ⟨_u28, hu28, h⟩ := bind_some h;have gu28 := yi hu28;have f29 := app_tight E34.len a0 (m := 1) (by decide)
   refine rg tok [4] fun K hK => ?_
   simp only [go_sem, qc, qf, qa, qt, reduceCtorEq, zN, z6, q9, qY, true_and, ue, z8, yj, t26, f27, gu28, f29, yB, ua, qW, AV.one, qU, qA, qj, ql, qn, qE];apply hK
   refine zV (L := [(4, .os true 1 1 0 0 (qb (a0 ++ [q5 (qH (IntKind.u8.wrap a1))])) false)]) (τ := [.cells 0 [.int .u8 (IntKind.u8.wrap a1)], .cells 0 (qe encB (a0 ++ [q5 (qH (IntKind.u8.wrap a1))]))]) (.same (by first | exact ⟨rfl, trivial⟩ | rfl | (simp only [go_sem, Fits, qi, qj, ql, qn, and_self] <;> rfl)) (by first | exact ⟨rfl, trivial⟩ | rfl | (simp only [go_sem, encB, q3, qT, ui, qy, vax] <;> rfl))) ?_;apply yA;cases h;simp only [ZC, yV, xe, xQ, exists_eq_left', go_sem, qd];refine ⟨1, 0, by simp, ?_, ?_⟩
   · first | rfl | (simp only [go_sem, qc, qf, qa, qd, qt, qG, reduceIte, reduceCtorEq, push_cast, if_true, qB, qn, qD, qw, qC, qO, qS, qQ, qP, qL, qz, zH] <;> rfl)
   first | rfl | (simp only [go_sem, push_cast, qw, zH] <;> rfl)
 clear h
 rintro m L τ ⟨k9, l3, x5, v4, rfl, rfl, rfl, h⟩
 rcases k9 with _ | k9
 · cases h
 simp only [xn.l9] at h
 refine za fun Z10 hZ10 => ?_
 refine rgN [0, 1, 12] ?_;refine zw rfl (fun hc11 => ?_) (fun hc11 => ?_)
 · rw [if_pos hc11] at h;have t12 := eq_true hc11;apply zd;apply hZ10;apply ze;have f13 := xx (T := tab) (src := 140) (dst := 5) rfl rfl rfl;obtain ⟨_u14, hu14, h⟩ := bind_some h;have gu14 := yi hu14;have f15 := (zv E34.len l3)
   refine rg tok [0, 1] fun K hK => ?_
   simp only [go_sem, qc, qf, qa, qt, reduceCtorEq, zN, z6, q9, qY, true_and, ue, z8, zO, yj, t12, f13, gu14, f15, yB, ua, qW, AV.one, qU, qA, qj, ql, qn, qE];apply hK
   refine zV (L := [(0, .os true 1 0 (v4 + 1) 0 (qb (l3 ++ [q5 (qH (IntKind.u8.wrap ((uj (qx 8 (IntKind.u8.wrap x5) ||| qx 8 128) : Nat) : Int)))])) false), (1, .int .u64 x5)]) (τ := [.cells (v4 + 1) (qe encB (l3 ++ [q5 (qH (IntKind.u8.wrap ((uj (qx 8 (IntKind.u8.wrap x5) ||| qx 8 128) : Nat) : Int)))])), .cells 0 [.int .u8 (IntKind.u8.wrap ((uj (qx 8 (IntKind.u8.wrap x5) ||| qx 8 128) : Nat) : Int))]]) (.same (by first | exact ⟨rfl, rfl, trivial⟩ | rfl | (simp only [go_sem, reduceCtorEq, Fits, qi, qj, ql, qn, and_self] <;> rfl)) (by first | exact ⟨rfl, rfl, trivial⟩ | rfl | (simp only [go_sem, encB, q3, qT, ui, qy, vax] <;> rfl))) ?_
   refine rgE tok [0, 1] fun K hK => ?_
   simp only [go_sem, qc, qa, reduceCtorEq, Yy, Int.reduceLT];apply hK
   exact ⟨_, _, _, qs (0 + k9), ⟨k9, l3 ++ [q5 (qH (IntKind.u8.wrap ((uj (qx 8 (IntKind.u8.wrap x5) ||| qx 8 128) : Nat) : Int)))], Int.fdiv x5 (2 ^ (min (qH 7) 64)), v4 + 1, rfl, rfl, rfl, h⟩, (.t [0] false)⟩
 rw [if_neg hc11] at h;have t16 := eq_false hc11;apply zy;apply hZ2;have f17 := xx (T := tab) (src := 140) (dst := 5) rfl rfl rfl;obtain ⟨_u18, hu18, h⟩ := bind_some h;have gu18 := yi hu18;have f19 := (zv E34.len l3)
 refine rg tok [4] fun K hK => ?_
 simp only [go_sem, qc, qf, qa, qt, reduceCtorEq, zN, z6, q9, qY, true_and, ue, z8, zO, yj, t16, f17, gu18, f19, yB, ua, qW, AV.one, qU, qA, qj, ql, qn, qE];apply hK
 refine zV (L := [(4, .os true 1 0 (v4 + 1) 0 (qb (l3 ++ [q5 (qH (IntKind.u8.wrap x5))])) false)]) (τ := [.cells (v4 + 1) (qe encB (l3 ++ [q5 (qH (IntKind.u8.wrap x5))])), .cells 0 [.int .u8 (IntKind.u8.wrap x5)]]) (.same (by first | exact ⟨rfl, trivial⟩ | rfl | (simp only [go_sem, Fits, qi, qj, ql, qn, and_self] <;> rfl)) (by first | exact ⟨rfl, trivial⟩ | rfl | (simp only [go_sem, encB, q3, qT, ui, qy, vax] <;> rfl))) ?_;apply yA;cases h;simp only [ZC, yV, xe, xQ, exists_eq_left', go_sem, qd];refine ⟨0, v4 + 1, by simp, ?_, ?_⟩
 · first | rfl | (simp only [go_sem, qc, qf, qa, qd, qt, qG, reduceIte, reduceCtorEq, push_cast, if_true, qB, qn, qD, qw, qC, qO, qS, qQ, qP, qL, qz, zH] <;> rfl)
 first | rfl | (simp only [go_sem, push_cast, qw, zH] <;> rfl)
theorem xn.ok (a0 : List UInt8) (a1 : Int) (r : List UInt8) (h : xn a0 a1 = some r) : ACalls qh 89 [.ds true (qe encB a0) (qb a0) false, .int .u64 a1] [] (fun r' _ => r' = .ds true (qe encB r) (qb r) false) :=
 (xn.own a0 a1 r h).ownData (zv E34.len r) (by simp only [push_cast])
theorem xn.ev (a0 : List UInt8) (a1 : Int) (r : List UInt8) (h : xn a0 a1 = some r) (σ : Store) : ACalls qh 89 [.ds true (qe encB a0) (qb a0) false, .int .u64 a1] σ (fun r' σ' => r' = .ds true (qe encB r) (qb r) false ∧ σ' = σ) :=
 (xn.ok a0 a1 r h).c σ
def ZN (a0 : Int) : Int :=
 IntKind.u64.wrap ((uj (qx 64 (IntKind.u64.wrap ((IntKind.u64.wrap a0) * 2 ^ (min (qH 1) 64))) ^^^ qx 64 (IntKind.u64.wrap (Int.fdiv a0 (2 ^ (min (qH 63) 64))))) : Nat) : Int)
theorem ZN.ok (a0 : Int) (r : Int) (h : ZN a0 = r) : ACalls qh 90 [.int .i64 a0] [] (fun r' _ => r' = .int .u64 r) := by
 refine zf (rs := [.tmp 2]) tok Tryz.func90 rfl Tryz.ntmps90 rfl Tryz.call90 (by simp) ?_;refine zl [(0, .int .i64 a0)] ⟨rfl, trivial⟩ ?_;unfold ZN at h;refine rgN [0] ?_;have f1 := xx (T := tab) (src := 3) (dst := 140) rfl rfl rfl;have f2 := xx (T := tab) (src := 3) (dst := 140) rfl rfl rfl
 refine rg tok [2] fun K hK => ?_
 simp only [go_sem, qc, qa, reduceCtorEq, f1, Yy, Int.reduceLT];apply hK
 cases h;exact rtA
theorem ZN.ev (a0 : Int) (r : Int) (h : ZN a0 = r) (σ : Store) : ACalls qh 90 [.int .i64 a0] σ (fun r' σ' => r' = .int .u64 r ∧ σ' = σ) :=
 (ZN.ok a0 r h).c σ
def ZM (a0 : List UInt8) (a1 : GRaw) : Option (List UInt8 × Bool) :=
 bnd (ym a1) fun r2 => (if (!r2) = true then some (a0, false) else (xn a0 (IntKind.u64.wrap (IntKind.i64.wrap ((IntKind.i64.wrap (2 * a1.fTag)) + a1.fWire)))).bind fun r5 => (if a1.fWire = 0 then bnd (ZN a1.fN) fun r9 => (xn r5 r9).bind fun r10 => some (r10, true) else (xn r5 (IntKind.u64.wrap (qb a1.fB : Int))).bind fun r13 => (Yf (qb r13 + qb a1.fB) 1).bind fun _u14 => some (r13 ++ a1.fB, true)))
theorem ZM.ok (a0 : List UInt8) (a1 : GRaw) (r : List UInt8 × Bool) (h : ZM a0 a1 = some r) : ACalls qh 52 [.ds true (qe encB a0) (qb a0) false, .agg (encGRaw a1)] [] (fun r' _ => r' = .tup [.ds true (qe encB r.1) (qb r.1) false, .bool r.2]) := by
 refine zf (rs := [.tmp 4, .tmp 5]) tok Tryz.func52 rfl Tryz.ntmps52 rfl Tryz.call52 (by simp) ?_;refine zl [(0, .ds true (qe encB a0) (qb a0) false), (1, .agg (encGRaw a1))] ⟨rfl, rfl, trivial⟩ ?_;unfold ZM at h
 refine rg tok [0, 3] fun K hK => ?_
 simp only [go_sem, qc, qa, qd, reduceCtorEq, encGRaw];apply hK
 refine za fun Z1 hZ1 => ?_
 refine rc [0, 3, 9] fun K hK => ?_
 obtain ⟨r2, hr2, h⟩ := zS h;refine rnN 1 ?_;refine clN rfl rfl rfl (ym.ev a1 r2 hr2 _) ?_;refine rnN 1 ?_;refine nkN hK ?_;refine zn (b := (!r2)) rfl (fun hc3 => ?_) (fun hc3 => ?_)
 · rw [if_pos hc3] at h;refine rgN [4, 5] ?_;cases h;exact rtA
 rw [xP hc3] at h;apply zd;apply hZ1
 refine rc [3, 6] fun K hK => ?_
 have f4 := xx (T := tab) (src := 3) (dst := 140) rfl rfl rfl;obtain ⟨r5, hr5, h⟩ := bind_some h;refine zj tok 8 ?_;simp only [go_sem, qc, qa, qd, reduceCtorEq, f4];refine clN rfl rfl rfl (xn.ev a0 (IntKind.u64.wrap (IntKind.i64.wrap ((IntKind.i64.wrap (2 * a1.fTag)) + a1.fWire))) r5 hr5 _) ?_;refine rnN 1 ?_;refine nkN hK ?_
 refine za fun Z6 hZ6 => ?_
 refine rgN [3, 6, 22] ?_;refine zw rfl (fun hc7 => ?_) (fun hc7 => ?_)
 · rw [if_pos hc7] at h;have t8 := eq_true hc7
   refine rc [4, 5] fun K hK => ?_
   obtain ⟨r9, hr9, h⟩ := zS h;refine zj tok 3 ?_;simp only [go_sem, qc, qa, qd, t8];refine clN rfl rfl rfl (ZN.ev a1.fN r9 hr9 _) ?_;obtain ⟨r10, hr10, h⟩ := bind_some h;refine clN rfl rfl rfl (xn.ev r5 r9 r10 hr10 _) ?_;refine rnN 2 ?_;refine nkN hK ?_;cases h;exact rtA
 rw [if_neg hc7] at h;have t11 := eq_false hc7;apply zd;apply hZ6;have f12 := xx (T := tab) (src := 3) (dst := 140) rfl rfl rfl;obtain ⟨r13, hr13, h⟩ := bind_some h;obtain ⟨_u14, hu14, h⟩ := bind_some h;have gu14 := yi hu14;have f15 := (zv E34.len r13)
 refine rd [4, 5] fun K hK => ?_
 refine DW.start (T := tab) [.any, .any, .at [], .at [], .at [], .eff, .any, .own 1 [], .eff, .any, .any] [(1, [])] ?_;refine DW.runN tok 5 ?_;simp only [go_sem, qc, qa, qd, t11, f12, qj, ql, qn];refine DW.callS rfl rfl rfl (@id (ACalls qh 89 [.ds true (qe encB r5) (qb r5) false, .int .u64 (IntKind.u64.wrap (qb a1.fB : Int))] [.cells 0 [.int .i64 a1.fTag, .int .i64 a1.fWire, .int .i64 a1.fN, .str a1.fB]] (fun r' σ' => r' = .os true 1 1 0 0 (qb r13) false ∧ σ' = [.cells 0 [.int .i64 a1.fTag, .int .i64 a1.fWire, .int .i64 a1.fN, .str a1.fB], .cells 0 (qe encB r13)])) ((xn.own r5 (IntKind.u64.wrap (qb a1.fB : Int)) r13 hr13).ownAt0 (by simp only [push_cast]) (by simp only [push_cast]) _)) (vce (by simp only [go_sem, qf])) ?_;refine DW.runN tok 5 ?_;simp only [go_sem, qc, qf, qa, qd, z8, zO, yj, true_and, gu14, f15, srcCells_s, Xc, Ze, qj, ql, qn];refine DW.fin tok (by decide +kernel) rfl ?_;simp only [zp, upd, qa, reduceIte, yP, xG];apply hK
 refine zV (L := [(4, .os true 1 1 (0 + 1) 0 (qb (r13 ++ a1.fB)) false), (5, .bool true)]) (τ := [.cells 0 [.int .i64 a1.fTag, .int .i64 a1.fWire, .int .i64 a1.fN, .str a1.fB], .cells (0 + 1) (qe encB (r13 ++ a1.fB))]) .s ?_;cases h;exact rtA
theorem ZM.ev (a0 : List UInt8) (a1 : GRaw) (r : List UInt8 × Bool) (h : ZM a0 a1 = some r) (σ : Store) : ACalls qh 52 [.ds true (qe encB a0) (qb a0) false, .agg (encGRaw a1)] σ (fun r' σ' => r' = .tup [.ds true (qe encB r.1) (qb r.1) false, .bool r.2] ∧ σ' = σ) :=
 (ZM.ok a0 a1 r h).c σ
def yc.l11 : List GRaw → Int → List UInt8 → Option (List UInt8 × Int)
 | [], x8, x7 => some (x7, 0)
 | y11 :: q11, x8, x7 => (ZM x7 y11).bind fun r17 => (if 4096 < (qb r17.1 : Int) then some (([] : List UInt8), 4) else ((yc.l11 q11) (x8 + 1) r17.1))
def yc.l4 (a0 : List GRaw) : List GRaw → Int → Option (List UInt8 × Int)
 | [], x2 => (yc.l11 a0 0 ([] : List UInt8))
 | y4 :: q4, x2 => bnd (ym y4) fun r25 => (if (!r25) = true then some (([] : List UInt8), 1) else ((yc.l4 a0 q4) (x2 + 1)))
def yc (a0 : List GRaw) : Option (List UInt8 × Int) :=
 (yc.l4 a0 a0 0)
theorem yc.ok (a0 : List GRaw) (r : List UInt8 × Int) (h : yc a0 = some r) : ACalls qh 26 [.ds true (qe encGRaw a0) (qb a0) false] [] (fun r' _ => r' = .tup [.ds true (qe encB r.1) (qb r.1) false, .int .i64 r.2]) := by
 refine zf (rs := [.tmp 2, .tmp 3]) tok Tryz.func26 rfl Tryz.ntmps26 rfl Tryz.call26 (by simp) ?_;refine zl [(0, .ds true (qe encGRaw a0) (qb a0) false)] ⟨rfl, trivial⟩ ?_;unfold yc at h;refine rgN [0] ?_
 refine za fun Z1 hZ1 => ?_
 refine rgN [0, 9, 10, 11] ?_;apply ze
 refine yU 0 fun hb4 => ?_
 replace hb4 : qb a0 ≤ 9223372036854775807 := hb4.1;refine zr (fun m L τ => ∃ (p4 q4 : List GRaw) (x2 : Int), m = qb q4 ∧ L = [(0, .ds true (qe encGRaw a0) (qb a0) false), (9, .ds true (qe encGRaw a0) (qb a0) false), (10, .int .i64 (qb a0 : Int)), (11, .int .i64 x2)] ∧ τ = [] ∧ a0 = p4 ++ q4 ∧ x2 = (qb p4 : Int) ∧ yc.l4 a0 q4 x2 = some r) _ ⟨[], a0, 0, rfl, rfl, rfl, rfl, rfl, h⟩ .s ?_;rintro m L τ ⟨p4, q4, x2, rfl, rfl, rfl, hE4, hi4, h⟩
 rcases q4 with _ | ⟨y4, q4⟩
 · have hz4 := yq hE4 hi4;simp only [yc.l4] at h
   refine rg tok [0, 9, 10, 11, 12] fun K hK => ?_
   simp only [go_sem, qc, qa, reduceCtorEq, hz4];apply hK
   refine za fun Z5 hZ5 => ?_
   refine zo rfl ?_;apply zy;apply hZ1;refine rgN [0, 6] ?_
   refine za fun Z6 hZ6 => ?_
   refine rgN [6, 19, 20, 21] ?_;apply ze
   refine yU 19 fun hb11 => ?_
   replace hb11 : qb a0 ≤ 9223372036854775807 := hb11.1;refine zr (fun m L τ => ∃ (p11 q11 : List GRaw) (x8 : Int) (x7 : List UInt8), m = qb q11 ∧ L = [(6, .ds true (qe encB x7) (qb x7) false), (19, .ds true (qe encGRaw a0) (qb a0) false), (20, .int .i64 (qb a0 : Int)), (21, .int .i64 x8)] ∧ τ = [] ∧ a0 = p11 ++ q11 ∧ x8 = (qb p11 : Int) ∧ yc.l11 q11 x8 x7 = some r) _ ⟨[], a0, 0, ([] : List UInt8), rfl, rfl, rfl, rfl, rfl, h⟩ (.t [] true) ?_;rintro m L τ ⟨p11, q11, x8, x7, rfl, rfl, rfl, hE11, hi11, h⟩
   rcases q11 with _ | ⟨y11, q11⟩
   · have hz11 := yq hE11 hi11;simp only [yc.l11] at h
     refine rg tok [6, 19, 20, 21, 22] fun K hK => ?_
     simp only [go_sem, qc, qa, hz11];apply hK
     refine za fun Z12 hZ12 => ?_
     refine zo rfl ?_;apply zy;apply hZ6;refine rgN [2, 3] ?_;cases h;exact rtA
   obtain ⟨hz11, hw11, hx11, hE'11, hi'11⟩ := zX hE11 hi11 hb11;simp only [yc.l11] at h
   refine rg tok [6, 19, 20, 21, 22] fun K hK => ?_
   simp only [go_sem, qc, qa, hz11];apply hK
   refine za fun Z13 hZ13 => ?_
   refine zq rfl ?_;apply zd;apply hZ13
   refine za fun Z14 hZ14 => ?_
   apply ze;have f15 := E28.idxS hx11;have f16 := E28.loadS rfl rfl hx11
   refine rg tok [6, 8, 19, 20, 21] fun K hK => ?_
   simp only [go_sem, qc, qf, qa, qd, encGRaw, f15, f16];apply hK
   refine rc [6, 19, 20, 21] fun K hK => ?_
   obtain ⟨r17, hr17, h⟩ := bind_some h;refine rnN 2 ?_;refine clN rfl rfl rfl (ZM.ev x7 y11 r17 hr17 _) ?_;refine rnN 4 ?_;refine nkN hK ?_;refine rgN [6, 19, 20, 21, 33] ?_;refine zw rfl (fun hc18 => ?_) (fun hc18 => ?_)
   · rw [if_pos hc18] at h;have t19 := eq_true hc18
     refine rg tok [2, 3] fun K hK => ?_
     simp only [go_sem, qc, qa, t19];apply hK
     cases h;exact rtA
   rw [if_neg hc18] at h;have t20 := eq_false hc18;apply zd;apply hZ14
   refine rgE tok [6, 19, 20, 21] fun K hK => ?_
   simp only [go_sem, qc, qa, hw11, t20];apply hK
   exact ⟨_, _, _, qs q11.length, ⟨p11 ++ [y11], q11, x8 + 1, r17.1, rfl, rfl, rfl, hE'11, hi'11, h⟩, (.t [] false)⟩
 obtain ⟨hz4, hw4, hx4, hE'4, hi'4⟩ := zX hE4 hi4 hb4;simp only [yc.l4] at h
 refine rg tok [0, 9, 10, 11, 12] fun K hK => ?_
 simp only [go_sem, qc, qa, reduceCtorEq, hz4];apply hK
 refine za fun Z21 hZ21 => ?_
 refine zq rfl ?_;apply zd;apply hZ21
 refine za fun Z22 hZ22 => ?_
 apply ze;have f23 := E28.idxS hx4;have f24 := E28.loadS rfl rfl hx4
 refine rg tok [0, 5, 9, 10, 11] fun K hK => ?_
 simp only [go_sem, qc, qf, qa, qd, reduceCtorEq, encGRaw, f23, f24];apply hK
 refine rc [0, 9, 10, 11, 17] fun K hK => ?_
 obtain ⟨r25, hr25, h⟩ := zS h;refine rnN 1 ?_;refine clN rfl rfl rfl (ym.ev y4 r25 hr25 _) ?_;refine rnN 1 ?_;refine nkN hK ?_;refine zn (b := (!r25)) rfl (fun hc26 => ?_) (fun hc26 => ?_)
 · rw [if_pos hc26] at h;refine rgN [2, 3] ?_;cases h;exact rtA
 rw [xP hc26] at h;apply zd;apply hZ22
 refine rgE tok [0, 9, 10, 11] fun K hK => ?_
 simp only [go_sem, qc, qa, reduceCtorEq, hw4];apply hK
 exact ⟨_, _, _, qs q4.length, ⟨p4 ++ [y4], q4, x2 + 1, rfl, rfl, rfl, hE'4, hi'4, h⟩, (.t [] false)⟩
theorem yc.ev (a0 : List GRaw) (r : List UInt8 × Int) (h : yc a0 = some r) (σ : Store) : ACalls qh 26 [.ds true (qe encGRaw a0) (qb a0) false] σ (fun r' σ' => r' = .tup [.ds true (qe encB r.1) (qb r.1) false, .int .i64 r.2] ∧ σ' = σ) :=
 (yc.ok a0 r h).c σ
def xh.body (yS : GValueNode → Option (List UInt8 × Int)) (ye : Int → GValueValue → Option (GRaw × Int)) (yY : GValueNode → Option (List GRaw × Int)) (a0 : GValueNode) : Option (List UInt8 × Int) :=
 (yY a0).bind fun r1 => (if r1.2 = 0 then (yc r1.1).bind fun r6 => some (r6.1, r6.2) else some (([] : List UInt8), r1.2))
theorem xh.step (yS : GValueNode → Option (List UInt8 × Int)) (ye : Int → GValueValue → Option (GRaw × Int)) (yY : GValueNode → Option (List GRaw × Int)) (w9 : ∀ (a0 : GValueNode) (r : List UInt8 × Int), yS a0 = some r → ACalls qh 138 [.dp (encGValueNode a0) 0] [] (fun r' _ => r' = .tup [.ds true (qe encB r.1) (qb r.1) false, .int .i64 r.2])) (Zz : ∀ (a0 : Int) (a1 : GValueValue) (r : GRaw × Int), ye a0 a1 = some r → ACalls qh 101 [.int .i64 a0, .agg (encGValueValue a1)] [] (fun r' _ => r' = .tup [.agg (encGRaw r.1), .int .i64 r.2])) (Zk : ∀ (a0 : GValueNode) (r : List GRaw × Int), yY a0 = some r → ACalls qh 58 [.dp (encGValueNode a0) 0] [] (fun r' _ => r' = .tup [.ds true (qe encGRaw r.1) (qb r.1) false, .int .i64 r.2])) (a0 : GValueNode) (r : List UInt8 × Int) (h : xh.body yS ye yY a0 = some r) : ACalls qh 138 [.dp (encGValueNode a0) 0] [] (fun r' _ => r' = .tup [.ds true (qe encB r.1) (qb r.1) false, .int .i64 r.2]) := by
 have ev_encode_bytes := fun a0 r h σ => (w9 a0 r h).c σ
 have ev_encode_raw := fun a0 a1 r h σ => (Zz a0 a1 r h).c σ
 have ev_encode_raws := fun a0 r h σ => (Zk a0 r h).c σ
 refine zf (rs := [.tmp 2, .tmp 3]) tok Tryz.func138 rfl Tryz.ntmps138 rfl Tryz.call138 (by simp) ?_;refine zl [(0, .dp (encGValueNode a0) 0)] ⟨rfl, trivial⟩ ?_;unfold xh.body at h;refine rgN [0] ?_
 refine rc [4, 5] fun K hK => ?_
 obtain ⟨r1, hr1, h⟩ := bind_some h;refine rnN 1 ?_;refine clN rfl rfl rfl (ev_encode_raws a0 r1 hr1 _) ?_;refine rnN 5 ?_;refine nkN hK ?_
 refine za fun Z2 hZ2 => ?_
 refine rgN [4, 5, 12] ?_;refine zw rfl (fun hc3 => ?_) (fun hc3 => ?_)
 · rw [if_neg hc3] at h;have t4 := eq_false hc3
   refine rg tok [2, 3] fun K hK => ?_
   simp only [go_sem, qc, qa, t4];apply hK
   cases h;exact rtA
 rw [if_pos hc3] at h;have t5 := eq_true hc3;apply zd;apply hZ2
 refine rc [2, 3] fun K hK => ?_
 obtain ⟨r6, hr6, h⟩ := bind_some h;refine zj tok 1 ?_;simp only [go_sem, qc, qa, t5];refine clN rfl rfl rfl (yc.ev r1.1 r6 hr6 _) ?_;refine rnN 4 ?_;refine nkN hK ?_;cases h;exact rtA
def yK.j3 (m1_2 : GRaw) : Option (GRaw × Int) :=
 (if 4096 < (qb m1_2.fB : Int) then some ((⟨0, 0, 0, []⟩ : GRaw), 4) else some (m1_2, 0))
def yK.body (yS : GValueNode → Option (List UInt8 × Int)) (ye : Int → GValueValue → Option (GRaw × Int)) (yY : GValueNode → Option (List GRaw × Int)) (a0 : Int) (a1 : GValueValue) : Option (GRaw × Int) :=
 (wg a1).bind fun r8 => (match r8 with | .nil => (yK.j3 (⟨a0, 1, 0, []⟩ : GRaw)) | .num n9 => some ((⟨a0, 0, n9, []⟩ : GRaw), 0) | .str s9 => (yK.j3 (⟨a0, 1, 0, s9⟩ : GRaw)) | .node e9 r9 => (yS (⟨e9, r9⟩ : GValueNode)).bind fun r10 => (if r10.2 = 0 then (yK.j3 (⟨a0, 1, 0, r10.1⟩ : GRaw)) else some ((⟨0, 0, 0, []⟩ : GRaw), r10.2)))
theorem yK.step (yS : GValueNode → Option (List UInt8 × Int)) (ye : Int → GValueValue → Option (GRaw × Int)) (yY : GValueNode → Option (List GRaw × Int)) (w9 : ∀ (a0 : GValueNode) (r : List UInt8 × Int), yS a0 = some r → ACalls qh 138 [.dp (encGValueNode a0) 0] [] (fun r' _ => r' = .tup [.ds true (qe encB r.1) (qb r.1) false, .int .i64 r.2])) (Zz : ∀ (a0 : Int) (a1 : GValueValue) (r : GRaw × Int), ye a0 a1 = some r → ACalls qh 101 [.int .i64 a0, .agg (encGValueValue a1)] [] (fun r' _ => r' = .tup [.agg (encGRaw r.1), .int .i64 r.2])) (Zk : ∀ (a0 : GValueNode) (r : List GRaw × Int), yY a0 = some r → ACalls qh 58 [.dp (encGValueNode a0) 0] [] (fun r' _ => r' = .tup [.ds true (qe encGRaw r.1) (qb r.1) false, .int .i64 r.2])) (a0 : Int) (a1 : GValueValue) (r : GRaw × Int) (h : yK.body yS ye yY a0 a1 = some r) : ACalls qh 101 [.int .i64 a0, .agg (encGValueValue a1)] [] (fun r' _ => r' = .tup [.agg (encGRaw r.1), .int .i64 r.2]) := by
 have ev_encode_bytes := fun a0 r h σ => (w9 a0 r h).c σ
 have ev_encode_raw := fun a0 a1 r h σ => (Zz a0 a1 r h).c σ
 have ev_encode_raws := fun a0 r h σ => (Zk a0 r h).c σ
 refine zf (rs := [.cell 4 62, .tmp 5]) tok Tryz.func101 rfl Tryz.ntmps101 rfl Tryz.call101 (by simp) ?_;refine zl [(0, .int .i64 a0), (1, .agg (encGValueValue a1))] ⟨rfl, rfl, trivial⟩ ?_;unfold yK.body at h;have f1 := ZG a1;unfold AV.one at f1
 refine rg tok [0, 3, 4] fun K hK => ?_
 simp only [go_sem, qc, qa, reduceCtorEq, encGValueValue, f1];apply hK
 refine rgN [0, 3, 4, 6] ?_;refine xr (fun L τ => ∃ (m1_2 : GRaw), L = [(4, .op 0 0 0), (6, .op 1 0 0)] ∧ τ = [.cells 0 [.int .i64 0, .int .i64 0, .int .i64 0, .str []], .cells 0 [.int .i64 m1_2.fTag, .int .i64 m1_2.fWire, .int .i64 m1_2.fN, .str m1_2.fB]] ∧ yK.j3 m1_2 = some r) ?_ ?_
 · refine rc [0, 4, 6, 15] fun K hK => ?_
   obtain ⟨r8, hr8, h⟩ := bind_some h;refine rnN 1 ?_;refine clN rfl rfl rfl (wg.ev a1 r8 hr8 _) ?_;refine nkN hK ?_;apply ze
   rcases r8 with _ | n9 | s9 | ⟨e9, r9⟩
   · dsimp only at h
     try simp only [anyV_nil]
     refine rg tok [0, 4, 6, 15, 17, 18] fun K hK => ?_
     simp only [go_sem, qc, qa, qd, reduceCtorEq, xV, wb, TypeDesc.isIface];apply hK
     refine zo rfl ?_
     refine rg tok [4, 6, 15, 23, 24] fun K hK => ?_
     simp only [go_sem, qc, qa, qd, reduceCtorEq, xV, wb, TypeDesc.isIface];apply hK
     refine zo rfl ?_
     refine rg tok [4, 6, 28, 29] fun K hK => ?_
     simp only [go_sem, qc, qa, qd, xV, wb, TypeDesc.isIface];apply hK
     refine zo rfl ?_;apply zd;exact ⟨_, _, ⟨(⟨a0, 1, 0, []⟩ : GRaw), rfl, rfl, h⟩, (.t [1, 2] false)⟩
   · dsimp only at h
     try simp only [anyV_num]
     refine rg tok [0, 4, 6, 15, 17, 18] fun K hK => ?_
     simp only [go_sem, qc, qa, qd, reduceCtorEq, xV, wb, TypeDesc.isIface];apply hK
     refine zq rfl ?_;refine rgN [0, 4, 7] ?_;refine rgN [4, 5] ?_;cases h;exact rtA
   · dsimp only at h
     try simp only [anyV_str]
     refine rg tok [0, 4, 6, 15, 17, 18] fun K hK => ?_
     simp only [go_sem, qc, qa, qd, reduceCtorEq, xV, wb, TypeDesc.isIface];apply hK
     refine zo rfl ?_
     refine rg tok [4, 6, 15, 23, 24] fun K hK => ?_
     simp only [go_sem, qc, qa, qd, reduceCtorEq, xV, wb, TypeDesc.isIface];apply hK
     refine zq rfl ?_;refine rgN [4, 6, 8] ?_
     refine rgE tok [4, 6] fun K hK => ?_
     simp only [go_sem, qc, qf, qa, qd];apply hK
     exact ⟨_, _, ⟨(⟨a0, 1, 0, s9⟩ : GRaw), rfl, rfl, h⟩, (.t [1, 2] false)⟩
   dsimp only at h
   try simp only [anyV_node]
   refine rg tok [0, 4, 6, 15, 17, 18] fun K hK => ?_
   simp only [go_sem, qc, qa, qd, reduceCtorEq, xV, wb, TypeDesc.isIface];apply hK
   refine zo rfl ?_
   refine rg tok [4, 6, 15, 23, 24] fun K hK => ?_
   simp only [go_sem, qc, qa, qd, reduceCtorEq, xV, wb, TypeDesc.isIface];apply hK
   refine zo rfl ?_
   refine rg tok [4, 6, 28, 29] fun K hK => ?_
   simp only [go_sem, qc, qa, qd, xV, wb, TypeDesc.isIface];apply hK
   refine zq rfl ?_;refine rgN [4, 6, 9] ?_
   refine rc [4, 6, 10, 11] fun K hK => ?_
   obtain ⟨r10, hr10, h⟩ := bind_some h;refine rnN 1 ?_;refine clN rfl rfl rfl (ev_encode_bytes (⟨e9, r9⟩ : GValueNode) r10 hr10 _) ?_;refine rnN 5 ?_;refine nkN hK ?_
   refine za fun Z11 hZ11 => ?_
   refine rgN [4, 6, 10, 11, 36] ?_;refine zw rfl (fun hc12 => ?_) (fun hc12 => ?_)
   · rw [if_neg hc12] at h;have t13 := eq_false hc12
     refine rg tok [4, 5] fun K hK => ?_
     simp only [go_sem, qc, qf, qa, qd, t13];apply hK
     cases h;exact rtA
   rw [if_pos hc12] at h;have t14 := eq_true hc12;apply zd;apply hZ11;have f15 := vaq (T := tab) (src := 34) (dst := 9) rfl rfl rfl rfl rfl rfl r10.1
   refine rgE tok [4, 6] fun K hK => ?_
   simp only [go_sem, qc, qf, qa, qd, t14, f15];apply hK
   exact ⟨_, _, ⟨(⟨a0, 1, 0, r10.1⟩ : GRaw), rfl, rfl, h⟩, (.t [1, 2] false)⟩
 rintro _ _ ⟨m1_2, rfl, rfl, h⟩;unfold yK.j3 at h
 refine za fun Z4 hZ4 => ?_
 refine rgN [4, 6, 45] ?_;refine zw rfl (fun hc5 => ?_) (fun hc5 => ?_)
 · rw [if_pos hc5] at h;have t6 := eq_true hc5
   refine rg tok [4, 5] fun K hK => ?_
   simp only [go_sem, qc, qf, qa, qd, t6];apply hK
   cases h;exact rtA
 rw [if_neg hc5] at h;have t7 := eq_false hc5;apply zd;apply hZ4
 refine rg tok [4, 5] fun K hK => ?_
 simp only [go_sem, qc, qf, qa, qd, t7];apply hK
 cases h;exact rtA
end
section
set_option maxRecDepth 4000
set_option maxHeartbeats 1000000
open AM
def zQ.l24 (ye : Int → GValueValue → Option (GRaw × Int)) (x6 : Int) (rec10 : Int → List GRaw → Option (List GRaw × Int)) (y10 : Int) : List GValueValue → Int → List GRaw → Option (List GRaw × Int)
 | [], x20, l18 => (rec10 (x6 + 1) l18)
 | y24 :: q24, x20, l18 => (ye y10 y24).bind fun r31 => (if r31.2 = 0 then (Yf (qb l18 + 1) 40).bind fun _u36 => ((zQ.l24 ye x6 rec10 y10 q24) (x20 + 1) (l18 ++ [r31.1])) else some (([] : List GRaw), r31.2))
def zQ.l10 (ye : Int → GValueValue → Option (GRaw × Int)) (a0 : GValueNode) : List Int → Int → List GRaw → Option (List GRaw × Int)
 | [], x6, l4 => (zM l4).bind fun r12 => some (r12, 0)
 | y10 :: q10, x6, l4 => (yw a0 y10).bind fun r17 => (zQ.l24 ye x6 (zQ.l10 ye a0 q10) y10 r17 0 l4)
def zQ.body (yS : GValueNode → Option (List UInt8 × Int)) (ye : Int → GValueValue → Option (GRaw × Int)) (yY : GValueNode → Option (List GRaw × Int)) (a0 : GValueNode) : Option (List GRaw × Int) :=
 (wJ a0).bind fun r1 => (z7 a0).bind fun r3 => (zQ.l10 ye a0 r3 0 r1)
theorem zQ.step (yS : GValueNode → Option (List UInt8 × Int)) (ye : Int → GValueValue → Option (GRaw × Int)) (yY : GValueNode → Option (List GRaw × Int)) (w9 : ∀ (a0 : GValueNode) (r : List UInt8 × Int), yS a0 = some r → ACalls qh 138 [.dp (encGValueNode a0) 0] [] (fun r' _ => r' = .tup [.ds true (qe encB r.1) (qb r.1) false, .int .i64 r.2])) (Zz : ∀ (a0 : Int) (a1 : GValueValue) (r : GRaw × Int), ye a0 a1 = some r → ACalls qh 101 [.int .i64 a0, .agg (encGValueValue a1)] [] (fun r' _ => r' = .tup [.agg (encGRaw r.1), .int .i64 r.2])) (Zk : ∀ (a0 : GValueNode) (r : List GRaw × Int), yY a0 = some r → ACalls qh 58 [.dp (encGValueNode a0) 0] [] (fun r' _ => r' = .tup [.ds true (qe encGRaw r.1) (qb r.1) false, .int .i64 r.2])) (a0 : GValueNode) (r : List GRaw × Int) (h : zQ.body yS ye yY a0 = some r) : ACalls qh 58 [.dp (encGValueNode a0) 0] [] (fun r' _ => r' = .tup [.ds true (qe encGRaw r.1) (qb r.1) false, .int .i64 r.2]) := by
 have ev_encode_bytes := fun a0 r h σ => (w9 a0 r h).c σ
 have ev_encode_raw := fun a0 a1 r h σ => (Zz a0 a1 r h).c σ
 have ev_encode_raws := fun a0 r h σ => (Zk a0 r h).c σ
 refine zf (rs := [.tmp 2, .tmp 3]) tok Tryz.func58 rfl Tryz.ntmps58 rfl Tryz.call58 (by simp) ?_;refine zl [(0, .dp (encGValueNode a0) 0)] ⟨rfl, trivial⟩ ?_;unfold zQ.body at h;refine rgN [0] ?_
 refine rc [0, 4] fun K hK => ?_
 obtain ⟨r1, hr1, h⟩ := bind_some h;refine rnN 1 ?_;refine clN rfl rfl rfl (@id (ACalls qh 98 [.dp (encGValueNode a0) 0] [] (fun r' σ' => r' = .os true 4 0 0 0 (qb r1) false ∧ σ' = [.cells 0 (qe encGRaw r1)])) ((wJ.own a0 r1 hr1).ownAt0 (by simp only [push_cast]) (by simp only [push_cast]) _)) ?_;refine rnN 1 ?_;refine nkN hK ?_
 refine za fun Z2 hZ2 => ?_
 refine rc [0, 4, 14, 15, 16] fun K hK => ?_
 obtain ⟨r3, hr3, h⟩ := bind_some h;refine rnN 1 ?_;refine clN rfl rfl rfl (z7.ev a0 r3 hr3 _) ?_;refine rnN 2 ?_;refine nkN hK ?_;apply ze
 refine yU 14 fun hb10 => ?_
 replace hb10 : qb r3 ≤ 9223372036854775807 := hb10.1;refine zr (fun m L τ => ∃ (p10 q10 : List Int) (x6 : Int) (l4 : List GRaw) (v5 : Nat), m = qb q10 ∧ L = [(0, .dp (encGValueNode a0) 0), (4, .os true 4 0 v5 0 (qb l4) false), (14, .ds true (qe encI r3) (qb r3) false), (15, .int .i64 (qb r3 : Int)), (16, .int .i64 x6)] ∧ τ = [.cells v5 (qe encGRaw l4)] ∧ r3 = p10 ++ q10 ∧ x6 = (qb p10 : Int) ∧ zQ.l10 ye a0 q10 x6 l4 = some r) _ ⟨[], r3, 0, r1, 0, rfl, rfl, rfl, rfl, rfl, h⟩ .s ?_;rintro m L τ ⟨p10, q10, x6, l4, v5, rfl, rfl, rfl, hE10, hi10, h⟩
 rcases q10 with _ | ⟨y10, q10⟩
 · have hz10 := yq hE10 hi10;simp only [zQ.l10] at h
   refine rg tok [0, 4, 14, 15, 16, 17] fun K hK => ?_
   simp only [go_sem, qc, qa, reduceCtorEq, hz10];apply hK
   refine za fun Z11 hZ11 => ?_
   refine zo rfl ?_;apply zy;apply hZ2
   refine rc [2, 3] fun K hK => ?_
   obtain ⟨r12, hr12, h⟩ := bind_some h;refine rnN 1 ?_;refine vab (L := [(43, .ds true (qe encGRaw l4) (qb l4) false)]) (τ := []) (.t [] false) ?_;refine clN rfl rfl rfl (zM.ev l4 r12 hr12 _) ?_;refine rnN 2 ?_;refine nkN hK ?_;cases h;exact rtA
 obtain ⟨hz10, hw10, hx10, hE'10, hi'10⟩ := zX hE10 hi10 hb10;simp only [zQ.l10] at h
 refine rg tok [0, 4, 14, 15, 16, 17] fun K hK => ?_
 simp only [go_sem, qc, qa, reduceCtorEq, hz10];apply hK
 refine za fun Z13 hZ13 => ?_
 refine zq rfl ?_;apply zd;apply hZ13
 refine za fun Z14 hZ14 => ?_
 apply ze;have f15 := E45.idxS hx10;have f16 := E45.fldS0 (f := 3) rfl rfl hx10
 refine rg tok [0, 4, 6, 14, 15, 16] fun K hK => ?_
 simp only [go_sem, qc, qa, reduceCtorEq, encI, f15, f16];apply hK
 refine rc [0, 4, 6, 14, 15, 16, 22, 23, 24] fun K hK => ?_
 obtain ⟨r17, hr17, h⟩ := bind_some h;refine rnN 2 ?_;refine clN rfl rfl rfl (yw.ev a0 y10 r17 hr17 _) ?_;refine rnN 2 ?_;refine nkN hK ?_;apply ze
 refine yU 22 fun hb24 => ?_
 replace hb24 : qb r17 ≤ 9223372036854775807 := hb24.1;refine zr (fun m L τ => ∃ (p24 q24 : List GValueValue) (x20 : Int) (l18 : List GRaw) (v19 : Nat), m = qb q24 ∧ L = [(0, .dp (encGValueNode a0) 0), (4, .os true 4 0 v19 0 (qb l18) false), (6, .int .i64 y10), (14, .ds true (qe encI r3) (qb r3) false), (15, .int .i64 (qb r3 : Int)), (16, .int .i64 x6), (22, .ds true (qe encGValueValue r17) (qb r17) false), (23, .int .i64 (qb r17 : Int)), (24, .int .i64 x20)] ∧ τ = [.cells v19 (qe encGRaw l18)] ∧ r17 = p24 ++ q24 ∧ x20 = (qb p24 : Int) ∧ zQ.l24 ye x6 (zQ.l10 ye a0 q10) y10 q24 x20 l18 = some r) _ ⟨[], r17, 0, l4, v5, rfl, rfl, rfl, rfl, rfl, h⟩ .s ?_;rintro m L τ ⟨p24, q24, x20, l18, v19, rfl, rfl, rfl, hE24, hi24, h⟩
 rcases q24 with _ | ⟨y24, q24⟩
 · have hz24 := yq hE24 hi24;simp only [zQ.l24] at h
   refine rg tok [0, 4, 6, 14, 15, 16, 22, 23, 24, 25] fun K hK => ?_
   simp only [go_sem, qc, qa, reduceCtorEq, hz24];apply hK
   refine za fun Z25 hZ25 => ?_
   refine zo rfl ?_;apply zy;apply hZ14
   refine rgE tok [0, 4, 14, 15, 16] fun K hK => ?_
   simp only [go_sem, qc, qa, reduceCtorEq, hw10];apply hK
   exact ⟨_, _, _, qs q10.length, ⟨p10 ++ [y10], q10, x6 + 1, l18, v19, rfl, rfl, rfl, hE'10, hi'10, h⟩, .s⟩
 obtain ⟨hz24, hw24, hx24, hE'24, hi'24⟩ := zX hE24 hi24 hb24;simp only [zQ.l24] at h
 refine rg tok [0, 4, 6, 14, 15, 16, 22, 23, 24, 25] fun K hK => ?_
 simp only [go_sem, qc, qa, reduceCtorEq, hz24];apply hK
 refine za fun Z26 hZ26 => ?_
 refine zq rfl ?_;apply zd;apply hZ26
 refine za fun Z27 hZ27 => ?_
 apply ze;have f28 := E156.idxS hx24;have f29 := E156.loadS rfl rfl hx24;have f30 := ZG y24;unfold AV.one at f30
 refine rg tok [0, 4, 6, 8, 14, 15, 16, 22, 23, 24] fun K hK => ?_
 simp only [go_sem, qc, qf, qa, reduceCtorEq, encGValueValue, f28, f29, f30];apply hK
 refine rc [0, 4, 6, 9, 10, 14, 15, 16, 22, 23, 24] fun K hK => ?_
 obtain ⟨r31, hr31, h⟩ := bind_some h;refine rnN 2 ?_;refine clN rfl rfl rfl (ev_encode_raw y10 y24 r31 hr31 _) ?_;refine zj tok 6 ?_;simp only [go_sem, qc, qf, qa, qd, reduceCtorEq, encGRaw];refine nkN hK ?_
 refine za fun Z32 hZ32 => ?_
 refine rgN [0, 4, 6, 9, 10, 14, 15, 16, 22, 23, 24, 35] ?_;refine zw rfl (fun hc33 => ?_) (fun hc33 => ?_)
 · rw [if_neg hc33] at h;have t34 := eq_false hc33
   refine rg tok [2, 3] fun K hK => ?_
   simp only [go_sem, qc, qa, reduceCtorEq, t34];apply hK
   cases h;exact rtA
 rw [if_pos hc33] at h;have t35 := eq_true hc33;apply zd;apply hZ32;obtain ⟨_u36, hu36, h⟩ := bind_some h;have gu36 := yi hu36;have f37 := (zv E28.len l18)
 refine rgE tok [0, 4, 6, 14, 15, 16, 22, 23, 24] fun K hK => ?_
 simp only [go_sem, qc, qf, qa, qd, qt, reduceCtorEq, zN, z6, q9, qY, true_and, ue, z8, zO, yj, t35, gu36, f37, yB, ua, qW, AV.one, qU, qA, qj, ql, qn, qE];apply hK
 apply hZ27
 refine rgE tok [0, 4, 6, 14, 15, 16, 22, 23, 24] fun K hK => ?_
 simp only [go_sem, qc, qa, reduceCtorEq, hw24];apply hK
 exact ⟨_, _, _, qs q24.length, ⟨p24 ++ [y24], q24, x20 + 1, l18 ++ [r31.1], v19 + 1, rfl, rfl, rfl, hE'24, hi'24, h⟩, (.t [0] false)⟩
mutual
def xh : Nat → GValueNode → Option (List UInt8 × Int)
 | 0, _ => none
 | k + 1, a0 => xh.body (xh k) (yK k) (zQ k) a0
def yK : Nat → Int → GValueValue → Option (GRaw × Int)
 | 0, _, _ => none
 | k + 1, a0, a1 => yK.body (xh k) (yK k) (zQ k) a0 a1
def zQ : Nat → GValueNode → Option (List GRaw × Int)
 | 0, _ => none
 | k + 1, a0 => zQ.body (xh k) (yK k) (zQ k) a0
end
theorem xh.all (k : Nat) : (∀ (a0 : GValueNode) (r : List UInt8 × Int), xh k a0 = some r → ACalls qh 138 [.dp (encGValueNode a0) 0] [] (fun r' _ => r' = .tup [.ds true (qe encB r.1) (qb r.1) false, .int .i64 r.2])) ∧ (∀ (a0 : Int) (a1 : GValueValue) (r : GRaw × Int), yK k a0 a1 = some r → ACalls qh 101 [.int .i64 a0, .agg (encGValueValue a1)] [] (fun r' _ => r' = .tup [.agg (encGRaw r.1), .int .i64 r.2])) ∧ (∀ (a0 : GValueNode) (r : List GRaw × Int), zQ k a0 = some r → ACalls qh 58 [.dp (encGValueNode a0) 0] [] (fun r' _ => r' = .tup [.ds true (qe encGRaw r.1) (qb r.1) false, .int .i64 r.2])) := by
 induction k with
 | zero => exact ⟨(fun a0 r h => by simp only [xh] at h; cases h), (fun a0 a1 r h => by simp only [yK] at h; cases h), (fun a0 r h => by simp only [zQ] at h; cases h)⟩
 | succ k ih => exact ⟨(fun a0 r h => xh.step _ _ _ ih.1 ih.2.1 ih.2.2 a0 r (by simpa only [xh] using h)), (fun a0 a1 r h => yK.step _ _ _ ih.1 ih.2.1 ih.2.2 a0 a1 r (by simpa only [yK] using h)), (fun a0 r h => zQ.step _ _ _ ih.1 ih.2.1 ih.2.2 a0 r (by simpa only [zQ] using h))⟩
theorem zQ.ev (k : Nat) (a0 : GValueNode) (r : List GRaw × Int) (h : zQ k a0 = some r) (σ : Store) : ACalls qh 58 [.dp (encGValueNode a0) 0] σ (fun r' σ' => r' = .tup [.ds true (qe encGRaw r.1) (qb r.1) false, .int .i64 r.2] ∧ σ' = σ) :=
 ((xh.all k).2.2 a0 r h).c σ
def wI (a0 : GTree) : Option (List GRaw × Int) :=
 (ZQ a0).bind fun r1 => (if ((!r1.2) || (!(decide (a0.fKind = 3)))) = true then some (([] : List GRaw), 1) else (yE r1.1).bind fun r5 => (zQ rounds r5).bind fun r6 => some (r6.1, r6.2))
theorem wI.ok (a0 : GTree) (r : List GRaw × Int) (h : wI a0 = some r) : ACalls qh 37 [.agg (cellsGTree a0)] [] (fun r' _ => r' = .tup [.ds true (qe encGRaw r.1) (qb r.1) false, .int .i64 r.2]) := by
 refine zf (rs := [.tmp 2, .tmp 3]) tok Tryz.func37 rfl Tryz.ntmps37 rfl Tryz.call37 (by simp) ?_;refine zl [(0, .agg (cellsGTree a0))] ⟨rfl, trivial⟩ ?_;unfold wI at h
 refine rg tok [1] fun K hK => ?_
 simp only [go_sem, qc, qa, qd, reduceCtorEq, cellsGTree];apply hK
 refine rc [1, 4, 5] fun K hK => ?_
 obtain ⟨r1, hr1, h⟩ := bind_some h;refine rnN 1 ?_;refine clN rfl rfl rfl (ZQ.ev a0 r1 hr1 _) ?_;have f2 := ZG r1.1;unfold AV.one at f2;refine zj tok 6 ?_;simp only [go_sem, qc, qf, qa, qd, encGValueValue, f2];refine nkN hK ?_
 refine za fun Z3 hZ3 => ?_
 refine rc [4, 17] fun K hK => ?_
 refine rnN 3 ?_;refine zh 4 (fun L τ => L = [(4, .op 1 0 0), (17, .bool ((!r1.2) || (!(decide (a0.fKind = 3)))))] ∧ τ = [.cells 0 (cellsGTree a0), .cells 0 [ifcV r1.1]]) ?_ ?_
 · refine zI (b := (!r1.2)) 13 rfl (fun hg13 => ?_) (fun hg13 => ?_)
   · refine rnN 4 ?_;refine zb ⟨rfl, _, _, ⟨rfl, rfl⟩, .b hg13⟩
   refine rnN 4 ?_;refine zb ⟨rfl, _, _, ⟨rfl, rfl⟩, .b hg13⟩
 rintro _ _ ⟨rfl, rfl⟩;refine nkN hK ?_;refine zn (b := ((!r1.2) || (!(decide (a0.fKind = 3))))) rfl (fun hc4 => ?_) (fun hc4 => ?_)
 · rw [if_pos hc4] at h;refine rgN [2, 3] ?_;cases h;exact rtA
 rw [xP hc4] at h;apply zd;apply hZ3
 refine rc [2, 3] fun K hK => ?_
 obtain ⟨r5, hr5, h⟩ := bind_some h;refine rnN 1 ?_;refine clN rfl rfl rfl (yE.ev r1.1 r5 hr5 _) ?_;obtain ⟨r6, hr6, h⟩ := bind_some h;refine clN rfl rfl rfl (zQ.ev rounds r5 r6 hr6 _) ?_;refine rnN 4 ?_;refine nkN hK ?_;cases h;exact rtA
theorem wI.ev (a0 : GTree) (r : List GRaw × Int) (h : wI a0 = some r) (σ : Store) : ACalls qh 37 [.agg (cellsGTree a0)] σ (fun r' σ' => r' = .tup [.ds true (qe encGRaw r.1) (qb r.1) false, .int .i64 r.2] ∧ σ' = σ) :=
 (wI.ok a0 r h).c σ
def xW (a0 : GTree) : Option (List UInt8 × Int) :=
 (wI a0).bind fun r1 => (if r1.2 = 0 then (yc r1.1).bind fun r6 => some (r6.1, r6.2) else some (([] : List UInt8), r1.2))
theorem xW.ok (a0 : GTree) (r : List UInt8 × Int) (h : xW a0 = some r) : ACalls qh 14 [.agg (cellsGTree a0)] [] (fun r' _ => r' = .tup [.ds true (qe encB r.1) (qb r.1) false, .int .i64 r.2]) := by
 refine zf (rs := [.tmp 2, .tmp 3]) tok Tryz.func14 rfl Tryz.ntmps14 rfl Tryz.call14 (by simp) ?_;refine zl [(0, .agg (cellsGTree a0))] ⟨rfl, trivial⟩ ?_;unfold xW at h
 refine rg tok [1] fun K hK => ?_
 simp only [go_sem, qc, qa, qd, reduceCtorEq, cellsGTree];apply hK
 refine rc [4, 5] fun K hK => ?_
 obtain ⟨r1, hr1, h⟩ := bind_some h;refine rnN 1 ?_;refine clN rfl rfl rfl (wI.ev a0 r1 hr1 _) ?_;refine rnN 5 ?_;refine nkN hK ?_
 refine za fun Z2 hZ2 => ?_
 refine rgN [4, 5, 12] ?_;refine zw rfl (fun hc3 => ?_) (fun hc3 => ?_)
 · rw [if_neg hc3] at h;have t4 := eq_false hc3
   refine rg tok [2, 3] fun K hK => ?_
   simp only [go_sem, qc, qa, t4];apply hK
   cases h;exact rtA
 rw [if_pos hc3] at h;have t5 := eq_true hc3;apply zd;apply hZ2
 refine rc [2, 3] fun K hK => ?_
 obtain ⟨r6, hr6, h⟩ := bind_some h;refine zj tok 1 ?_;simp only [go_sem, qc, qa, t5];refine clN rfl rfl rfl (yc.ev r1.1 r6 hr6 _) ?_;refine rnN 4 ?_;refine nkN hK ?_;cases h;exact rtA
theorem xW.ev (a0 : GTree) (r : List UInt8 × Int) (h : xW a0 = some r) (σ : Store) : ACalls qh 14 [.agg (cellsGTree a0)] σ (fun r' σ' => r' = .tup [.ds true (qe encB r.1) (qb r.1) false, .int .i64 r.2] ∧ σ' = σ) :=
 (xW.ok a0 r h).c σ
def wv (a0 : List Int) : Option (List Int) :=
 (Yf (qb a0) 8).bind fun _u2 => some a0
theorem wv.own (a0 : List Int) (r : List Int) (h : wv a0 = some r) : ACalls qh 42 [.ds true (qe encI a0) (qb a0) false] [] (fun r' σ' => r' = .os true 1 0 0 0 (qb r) false ∧ σ' = [.cells 0 (qe encI r)]) := by
 refine ACalls.own0 (by simp only [push_cast]) ?_;refine ZL (rs := [.tmp 2]) tok Tryz.func42 rfl Tryz.ntmps42 rfl Tryz.call42 (by simp) ?_;refine zl [(0, .ds true (qe encI a0) (qb a0) false)] ⟨rfl, trivial⟩ ?_;unfold wv at h;refine rgN [0] ?_
 have f1 := fun nl tt σ => xK E45.len a0 nl tt σ
 obtain ⟨_u2, hu2, h⟩ := bind_some h;have gu2 := yi hu2
 refine rg tok [2] fun K hK => ?_
 simp only [go_sem, qc, qa, reduceCtorEq, z8, zO, yj, true_and, f1, gu2, Ze, qA, ql, qn];apply hK
 refine zV (L := [(2, .os true 1 0 0 0 (qb a0) false)]) (τ := [.cells 0 (qe encI a0)]) .s ?_;apply yA;cases h;simp only [ZC, yV, xe, xQ, exists_eq_left', go_sem];refine ⟨0, 0, by simp, ?_, ?_⟩
 · first | rfl | (simp only [go_sem, qc, qf, qa, qd, qt, qG, reduceIte, reduceCtorEq, push_cast, if_true, qB, qn, qD, qw, qC, qO, qS, qQ, qP, qL, qz, zH] <;> rfl)
 first | rfl | (simp only [go_sem, push_cast, qw, zH] <;> rfl)
theorem wv.ok (a0 : List Int) (r : List Int) (h : wv a0 = some r) : ACalls qh 42 [.ds true (qe encI a0) (qb a0) false] [] (fun r' _ => r' = .ds true (qe encI r) (qb r) false) :=
 (wv.own a0 r h).ownData (zv E45.len r) (by simp only [push_cast])
theorem wv.ev (a0 : List Int) (r : List Int) (h : wv a0 = some r) (σ : Store) : ACalls qh 42 [.ds true (qe encI a0) (qb a0) false] σ (fun r' σ' => r' = .ds true (qe encI r) (qb r) false ∧ σ' = σ) :=
 (wv.ok a0 r h).c σ
def yf.l19 (a0 : GSchema) (l4 : List GMessage) : List GEnumeration → Int → List GEnumeration → Option GSchema
 | [], x15, l13 => some (⟨a0.fName, l4, l13, a0.fMethods⟩ : GSchema)
 | y19 :: q19, x15, l13 => (Yf (qb y19.fValues) 24).bind fun _u28 => (Yf (qb l13 + 1) 40).bind fun _u29 => ((yf.l19 a0 l4 q19) (x15 + 1) (l13 ++ [(⟨y19.fName, y19.fValues⟩ : GEnumeration)]))
def yf.l10 (a0 : GSchema) : List GMessage → Int → List GMessage → Option GSchema
 | [], x6, l4 => (yf.l19 a0 l4 a0.fEnums 0 ([] : List GEnumeration))
 | y10 :: q10, x6, l4 => (Yf (qb y10.fFields) 56).bind fun _u36 => (wv y10.fReserved).bind fun r37 => (Yf (qb l4 + 1) 64).bind fun _u38 => ((yf.l10 a0 q10) (x6 + 1) (l4 ++ [(⟨y10.fName, y10.fFields, r37⟩ : GMessage)]))
def yf (a0 : GSchema) : Option GSchema :=
 (Yf (qb a0.fMethods) 48).bind fun _u2 => (yf.l10 a0 a0.fMessages 0 ([] : List GMessage))
theorem yf.ok (a0 : GSchema) (r : GSchema) (h : yf a0 = some r) : ACalls qh 17 [.agg (encGSchema a0)] [] (fun r' _ => r' = .agg (encGSchema r)) := by
 refine zf (rs := [.cell 2 26]) tok Tryz.func17 rfl Tryz.ntmps17 rfl Tryz.call17 (by simp) ?_;refine zl [(0, .agg (encGSchema a0))] ⟨rfl, trivial⟩ ?_;unfold yf at h
 refine rg tok [1, 2] fun K hK => ?_
 simp only [go_sem, qc, qa, qd, reduceCtorEq, encGSchema];apply hK
 have f1 := fun nl tt σ => xK E24.len a0.fMethods nl tt σ
 obtain ⟨_u2, hu2, h⟩ := bind_some h;have gu2 := yi hu2
 refine rd [1, 2, 3] fun K hK => ?_
 refine DW.start (T := tab) [.any, .own 2 [], .any, .at [], .eff, .any, .flt, .eff] [(2, [])] ?_;refine DW.runN tok 8 ?_;simp only [go_sem, qc, qf, qa, qd, z8, zO, yj, true_and, encGSchema, f1, gu2, Ze, ua, qW, AV.one, qU, qA, qj, ql, qn, qE];refine DW.fin tok (by decide +kernel) rfl ?_;simp only [zp, upd, qa, reduceIte, yP, xG];apply hK
 refine Zr 3 1 3 rfl (by simp) rfl (L := [(1, .op 0 0 0), (2, .op 1 0 0), (3, .op 3 0 0)]) (τ := [.cells 0 (encGSchema a0), .cells 0 [.str [], .ds true [] 0 true, .ds true [] 0 true, .ds true [] 0 true], .cells 0 (qe encGMethod a0.fMethods), .cells 0 [.str a0.fName, .os true 3 4 0 0 (qb ([] : List GMessage)) false, .ds true [] 0 true, .os true 3 2 0 0 (qb a0.fMethods) false], .cells 0 (qe encGMessage ([] : List GMessage))]) .s ?_;refine Zr 3 2 2 rfl (by simp) rfl (L := [(1, .op 0 0 0), (2, .op 1 0 0), (3, .op 3 0 0)]) (τ := [.cells 0 (encGSchema a0), .cells 0 [.str [], .ds true [] 0 true, .ds true [] 0 true, .ds true [] 0 true], .cells 0 (qe encGMethod a0.fMethods), .cells 0 [.str a0.fName, .os true 3 4 0 0 (qb ([] : List GMessage)) false, .os true 2 5 0 0 (qb ([] : List GEnumeration)) false, .os true 3 2 0 0 (qb a0.fMethods) false], .cells 0 (qe encGMessage ([] : List GMessage)), .cells 0 (qe encGEnumeration ([] : List GEnumeration))]) .s ?_;refine zV (L := [(1, .op 0 0 0), (2, .op 1 0 0), (3, .op 3 0 0)]) (τ := [.cells 0 (encGSchema a0), .cells 0 [.str [], .ds true [] 0 true, .ds true [] 0 true, .ds true [] 0 true], .cells 0 (qe encGMethod a0.fMethods), .cells 0 [.str a0.fName, .os true 3 4 0 0 (qb ([] : List GMessage)) false, .os true 2 5 0 0 (qb ([] : List GEnumeration)) false, .os true 3 2 0 0 (qb a0.fMethods) false], .cells 0 (qe encGMessage ([] : List GMessage)), .cells 0 (qe encGEnumeration ([] : List GEnumeration))]) .s ?_
 refine za fun Z3 hZ3 => ?_
 refine rgN [1, 2, 3, 4] ?_;apply ze
 refine xA 0 rfl fun hb10 => ?_
 replace hb10 : qb a0.fMessages ≤ 9223372036854775807 := hb10.2.1.1;refine zr (fun m L τ => ∃ (p10 q10 : List GMessage) (x6 : Int) (l4 : List GMessage) (v5 : Nat), m = qb q10 ∧ L = [(1, .op 0 0 0), (2, .op 1 0 0), (3, .op 3 0 0), (4, .int .i64 x6)] ∧ τ = [.cells 0 (encGSchema a0), .cells 0 [.str [], .ds true [] 0 true, .ds true [] 0 true, .ds true [] 0 true], .cells 0 (qe encGMethod a0.fMethods), .cells 0 [.str a0.fName, .os true 3 4 v5 0 (qb l4) false, .os true 2 5 0 0 (qb ([] : List GEnumeration)) false, .os true 3 2 0 0 (qb a0.fMethods) false], .cells v5 (qe encGMessage l4), .cells 0 (qe encGEnumeration ([] : List GEnumeration))] ∧ a0.fMessages = p10 ++ q10 ∧ x6 = (qb p10 : Int) ∧ yf.l10 a0 q10 x6 l4 = some r) _ ⟨[], a0.fMessages, 0, ([] : List GMessage), 0, rfl, rfl, rfl, rfl, rfl, h⟩ .s ?_;rintro m L τ ⟨p10, q10, x6, l4, v5, rfl, rfl, rfl, hE10, hi10, h⟩
 rcases q10 with _ | ⟨y10, q10⟩
 · have hz10 := yq hE10 hi10;simp only [yf.l10] at h
   refine za fun Z11 hZ11 => ?_
   refine rg tok [1, 2, 3, 4, 17] fun K hK => ?_
   simp only [go_sem, qc, qa, qd, hz10];apply hK
   refine zo rfl ?_;apply zy;apply hZ3
   refine za fun Z12 hZ12 => ?_
   refine rgN [1, 2, 3, 6] ?_;apply ze
   refine xA 0 rfl fun hb19 => ?_
   replace hb19 : qb a0.fEnums ≤ 9223372036854775807 := hb19.2.2.1.1;refine zr (fun m L τ => ∃ (p19 q19 : List GEnumeration) (x15 : Int) (l13 : List GEnumeration) (v14 : Nat), m = qb q19 ∧ L = [(1, .op 0 0 0), (2, .op 1 0 0), (3, .op 3 0 0), (6, .int .i64 x15)] ∧ τ = [.cells 0 (encGSchema a0), .cells 0 [.str [], .ds true [] 0 true, .ds true [] 0 true, .ds true [] 0 true], .cells 0 (qe encGMethod a0.fMethods), .cells 0 [.str a0.fName, .os true 3 4 v5 0 (qb l4) false, .os true 2 5 v14 0 (qb l13) false, .os true 3 2 0 0 (qb a0.fMethods) false], .cells v5 (qe encGMessage l4), .cells v14 (qe encGEnumeration l13)] ∧ a0.fEnums = p19 ++ q19 ∧ x15 = (qb p19 : Int) ∧ yf.l19 a0 l4 q19 x15 l13 = some r) _ ⟨[], a0.fEnums, 0, ([] : List GEnumeration), 0, rfl, rfl, rfl, rfl, rfl, h⟩ .s ?_;rintro m L τ ⟨p19, q19, x15, l13, v14, rfl, rfl, rfl, hE19, hi19, h⟩
   rcases q19 with _ | ⟨y19, q19⟩
   · have hz19 := yq hE19 hi19;simp only [yf.l19] at h
     refine za fun Z20 hZ20 => ?_
     refine rg tok [1, 2, 3, 6, 43] fun K hK => ?_
     simp only [go_sem, qc, qa, qd, hz19];apply hK
     refine zo rfl ?_;apply zy;apply hZ12;refine rgN [2] ?_;cases h;exact rtA
   obtain ⟨hz19, hw19, hx19, hE'19, hi'19⟩ := zX hE19 hi19 hb19;simp only [yf.l19] at h
   refine za fun Z21 hZ21 => ?_
   refine rg tok [1, 2, 3, 6, 43] fun K hK => ?_
   simp only [go_sem, qc, qa, qd, hz19];apply hK
   refine zq rfl ?_;apply zd;apply hZ21
   refine za fun Z22 hZ22 => ?_
   apply ze;have f23 := E23.idxS hx19;have f24 := E23.fldS0 (f := 9) rfl rfl hx19;have f25 := E23.idxS hx19;have f26 := E23.fldS (f := 82) rfl rfl hx19 (o := 1) (by decide)
   have f27 := fun nl tt σ => xK E82.len y19.fValues nl tt σ
   obtain ⟨_u28, hu28, h⟩ := bind_some h;have gu28 := yi hu28;obtain ⟨_u29, hu29, h⟩ := bind_some h;have gu29 := yi hu29;have f30 := (zv E23.len l13)
   refine rdE [1, 2, 3, 6] fun K hK => ?_
   refine DW.start (T := tab) [.any, .own 2 [], .any, .own 1 [], .any, .any, .any, .own 1 [], .any, .at [], .any, .any, .any, .at [], .eff, .any, .eff, .eff, .any, .eff] [(2, []), (1, [])] ?_;refine DW.runN tok 8 ?_;simp only [go_sem, qc, qa, qd, encGEnumeration, encGSchema, f23, f24, qj, ql, qn];refine DW.runN tok 8 ?_;simp only [go_sem, qc, qf, qa, qd, z8, zO, yj, true_and, encGEnumeration, f23, f26, f27, gu28, Ze, ua, qW, AV.one, qU, qA, qj, ql, qn, qE];refine DW.runN tok 4 ?_;simp only [go_sem, qc, qf, qa, qd, qt, zN, z6, q9, qY, true_and, ue, z8, zO, yj, gu29, f30, ua, qW, AV.one, qU, qA, qj, ql, qn, qE, yB];refine DW.fin tok (by decide +kernel) rfl ?_;simp only [zp, upd, qa, reduceIte, yP, xG];apply hK
   apply hZ22
   refine rgE tok [1, 2, 3, 6] fun K hK => ?_
   simp only [go_sem, qc, qa, hw19];apply hK
   exact ⟨_, _, _, qs q19.length, ⟨p19 ++ [y19], q19, x15 + 1, l13 ++ [(⟨y19.fName, y19.fValues⟩ : GEnumeration)], v14 + 1, rfl, rfl, rfl, hE'19, hi'19, h⟩, (.t [0, 1, 2, 3, 4, 5] false)⟩
 obtain ⟨hz10, hw10, hx10, hE'10, hi'10⟩ := zX hE10 hi10 hb10;simp only [yf.l10] at h
 refine za fun Z31 hZ31 => ?_
 refine rg tok [1, 2, 3, 4, 17] fun K hK => ?_
 simp only [go_sem, qc, qa, qd, hz10];apply hK
 refine zq rfl ?_;apply zd;apply hZ31
 refine za fun Z32 hZ32 => ?_
 apply ze;have f33 := E22.idxS hx10;have f34 := E22.loadS rfl rfl hx10
 refine rg tok [1, 2, 3, 4, 5] fun K hK => ?_
 simp only [go_sem, qc, qf, qa, qd, encGMessage, f33, f34];apply hK
 have f35 := fun nl tt σ => xK E47.len y10.fFields nl tt σ
 obtain ⟨_u36, hu36, h⟩ := bind_some h;have gu36 := yi hu36;obtain ⟨r37, hr37, h⟩ := bind_some h;obtain ⟨_u38, hu38, h⟩ := bind_some h;have gu38 := yi hu38;have f39 := (zv E22.len l4)
 refine rdE [1, 2, 3, 4] fun K hK => ?_
 refine DW.start (T := tab) [.any, .own 3 [], .any, .own 2 [], .any, .at [], .eff, .any, .own 1 [], .eff, .any, .eff, .eff, .any, .eff] [(3, []), (2, []), (1, [])] ?_;refine DW.runN tok 8 ?_;simp only [go_sem, qc, qf, qa, qd, z8, zO, yj, true_and, encGSchema, f35, gu36, Ze, ui, qA, qj, ql, qn, qE];refine DW.runN tok 1 ?_;simp only [go_sem, qc, qa, qd, qj, ql, qn];refine DW.call rfl rfl rfl (wv.ev y10.fReserved r37 hr37 _) ?_;refine DW.runN tok 5 ?_;simp only [go_sem, qc, qf, qa, qd, qt, zN, z6, q9, qY, true_and, ue, z8, zO, yj, gu38, f39, ua, qW, AV.one, qU, qA, qj, ql, qn, qE, yB];refine DW.fin tok (by decide +kernel) rfl ?_;simp only [zp, upd, qa, reduceIte, yP, xG];apply hK
 apply hZ32
 refine rgE tok [1, 2, 3, 4] fun K hK => ?_
 simp only [go_sem, qc, qa, hw10];apply hK
 exact ⟨_, _, _, qs q10.length, ⟨p10 ++ [y10], q10, x6 + 1, l4 ++ [(⟨y10.fName, y10.fFields, r37⟩ : GMessage)], v5 + 1, rfl, rfl, rfl, hE'10, hi'10, h⟩, (.t [0, 1, 2, 3, 4, 5] false)⟩
theorem yf.ev (a0 : GSchema) (r : GSchema) (h : yf a0 = some r) (σ : Store) : ACalls qh 17 [.agg (encGSchema a0)] σ (fun r' σ' => r' = .agg (encGSchema r) ∧ σ' = σ) :=
 (yf.ok a0 r h).c σ
def w4 (a0 : List UInt8) (a1 : Int) : Option Int :=
 (if (qb a0 : Int) ≤ a1 then some true else (Zb a0 a1).bind fun b2 => some (decide ((b2.toNat : Int) < 128))).bind fun c2 => (if c2 = true then some true else (Zb a0 a1).bind fun b7 => some (decide (191 < (b7.toNat : Int)))).bind fun c7 => (if c7 = true then some (-1) else (Zb a0 a1).bind fun b11 => some (IntKind.i64.wrap ((IntKind.i64.wrap (b11.toNat : Int)) - 128)))
theorem w4.ok (a0 : List UInt8) (a1 : Int) (r : Int) (h : w4 a0 a1 = some r) : ACalls qh 146 [.str a0, .int .i64 a1] [] (fun r' _ => r' = .int .i64 r) := by
 refine zf (rs := [.tmp 4]) tok Tryz.func146 rfl Tryz.ntmps146 rfl Tryz.call146 (by simp) ?_;refine zl [(0, .str a0), (1, .int .i64 a1)] ⟨rfl, rfl, trivial⟩ ?_;unfold w4 at h;refine rgN [0, 1] ?_
 refine za fun Z1 hZ1 => ?_
 refine rc [0, 1, 20] fun K hK => ?_
 refine rnN 5 ?_;obtain ⟨c2, hc2, h⟩ := bind_some h;refine zh 5 (fun L τ => L = [(0, .str a0), (1, .int .i64 a1), (14, .bool c2)] ∧ τ = []) ?_ ?_
 · refine yF 9 rfl (fun hg9 => ?_) (fun hg9 => ?_)
   · have t3 := eq_true hg9;rw [if_pos hg9] at hc2;refine rnN 5 ?_;cases hc2;refine zb ⟨rfl, _, _, ⟨rfl, rfl⟩, .p t3⟩
   have t4 := eq_false hg9;rw [if_neg hg9] at hc2;obtain ⟨b5, hb5, hc2⟩ := bind_some hc2;have f6 := idx_str (T := tab) (t := 9) rfl rfl hb5;refine zj tok 5 ?_;simp only [go_sem, qc, qa, reduceCtorEq, f6];cases hc2;refine zb ⟨rfl, _, _, ⟨rfl, rfl⟩, .p t4⟩
 rintro _ _ ⟨rfl, rfl⟩;refine rnN 1 ?_;obtain ⟨c7, hc7, h⟩ := bind_some h;refine zh 5 (fun L τ => L = [(0, .str a0), (1, .int .i64 a1), (20, .bool c7)] ∧ τ = []) ?_ ?_
 · refine zI (b := c2) 15 rfl (fun hg15 => ?_) (fun hg15 => ?_)
   · rw [if_pos hg15] at hc7;refine rnN 5 ?_;cases hc7;refine zb ⟨rfl, _, _, ⟨rfl, rfl⟩, .b hg15⟩
   rw [xP hg15] at hc7;obtain ⟨b8, hb8, hc7⟩ := bind_some hc7;have f9 := idx_str (T := tab) (t := 9) rfl rfl hb8;refine zj tok 5 ?_;simp only [go_sem, qc, qa, reduceCtorEq, f9];cases hc7;refine zb ⟨rfl, _, _, ⟨rfl, rfl⟩, .b hg15⟩
 rintro _ _ ⟨rfl, rfl⟩;refine nkN hK ?_;refine zn (b := c7) rfl (fun hc10 => ?_) (fun hc10 => ?_)
 · rw [if_pos hc10] at h;refine rgN [4] ?_;cases h;exact rtA
 rw [xP hc10] at h;apply zd;apply hZ1;obtain ⟨b11, hb11, h⟩ := bind_some h;have f12 := idx_str (T := tab) (t := 9) rfl rfl hb11;have f13 := xx (T := tab) (src := 5) (dst := 3) rfl rfl rfl
 refine rg tok [4] fun K hK => ?_
 simp only [go_sem, qc, qa, reduceCtorEq, f12, f13];apply hK
 cases h;exact rtA
theorem w4.ev (a0 : List UInt8) (a1 : Int) (r : Int) (h : w4 a0 a1 = some r) (σ : Store) : ACalls qh 146 [.str a0, .int .i64 a1] σ (fun r' σ' => r' = .int .i64 r ∧ σ' = σ) :=
 (w4.ok a0 a1 r h).c σ
def yy.l17 (a0 : List UInt8) (a1 : Int) (x8 : Int) (x10 : Int) : Nat → Int → Int → Option (Int × Int × Bool)
 | 0, _, _ => none
 | k17 + 1, x13, x14 => (if x14 < x8 then (w4 a0 (IntKind.i64.wrap (a1 + x14))).bind fun r22 => (if r22 < 0 then some (0, 0, false) else ((yy.l17 a0 a1 x8 x10 k17) (IntKind.i64.wrap ((IntKind.i64.wrap (64 * x13)) + r22)) (IntKind.i64.wrap (x14 + 1)))) else (if (((decide (x13 < x10)) || (decide (1114111 < x13))) || ((decide (55296 ≤ x13)) && (decide (x13 ≤ 57343)))) = true then some (0, 0, false) else some (IntKind.i32.wrap x13, x8, true)))
def yy.j11 (a0 : List UInt8) (a1 : Int) (x8 : Int) (x9 : Int) (x10 : Int) : Option (Int × Int × Bool) :=
 (yy.l17 a0 a1 x8 x10 rounds x9 1)
def yy (a0 : List UInt8) (a1 : Int) : Option (Int × Int × Bool) :=
 (if ((decide (a1 < 0)) || (decide ((qb a0 : Int) ≤ a1))) = true then some (0, 0, false) else (Zb a0 a1).bind fun b5 => (if IntKind.i64.wrap (b5.toNat : Int) < 128 then some (IntKind.i32.wrap (IntKind.i64.wrap (b5.toNat : Int)), 1, true) else (if ((decide (192 ≤ IntKind.i64.wrap (b5.toNat : Int))) && (decide (IntKind.i64.wrap (b5.toNat : Int) < 224))) = true then (yy.j11 a0 a1 2 (IntKind.i64.wrap ((IntKind.i64.wrap (b5.toNat : Int)) - 192)) 128) else (if ((decide (224 ≤ IntKind.i64.wrap (b5.toNat : Int))) && (decide (IntKind.i64.wrap (b5.toNat : Int) < 240))) = true then (yy.j11 a0 a1 3 (IntKind.i64.wrap ((IntKind.i64.wrap (b5.toNat : Int)) - 224)) 2048) else (if ((decide (240 ≤ IntKind.i64.wrap (b5.toNat : Int))) && (decide (IntKind.i64.wrap (b5.toNat : Int) < 248))) = true then (yy.j11 a0 a1 4 (IntKind.i64.wrap ((IntKind.i64.wrap (b5.toNat : Int)) - 240)) 65536) else some (0, 0, false))))))
theorem yy.ok (a0 : List UInt8) (a1 : Int) (r : Int × Int × Bool) (h : yy a0 a1 = some r) : ACalls qh 120 [.str a0, .int .i64 a1] [] (fun r' _ => r' = .tup [.int .i32 r.1, .int .i64 r.2.1, .bool r.2.2]) := by
 refine zf (rs := [.tmp 4, .tmp 5, .tmp 6]) tok Tryz.func120 rfl Tryz.ntmps120 rfl Tryz.call120 (by simp) ?_;refine zl [(0, .str a0), (1, .int .i64 a1)] ⟨rfl, rfl, trivial⟩ ?_;unfold yy at h;refine rgN [0, 1] ?_
 refine za fun Z1 hZ1 => ?_
 refine rc [0, 1, 20] fun K hK => ?_
 refine rnN 3 ?_;refine zh 5 (fun L τ => L = [(0, .str a0), (1, .int .i64 a1), (20, .bool ((decide (a1 < 0)) || (decide ((qb a0 : Int) ≤ a1))))] ∧ τ = []) ?_ ?_
 · refine yF 15 rfl (fun hg15 => ?_) (fun hg15 => ?_)
   · have t2 := eq_true hg15;refine rnN 5 ?_;refine zb ⟨rfl, _, _, ⟨rfl, rfl⟩, .p t2⟩
   have t3 := eq_false hg15;refine rnN 5 ?_;refine zb ⟨rfl, _, _, ⟨rfl, rfl⟩, .p t3⟩
 rintro _ _ ⟨rfl, rfl⟩;refine nkN hK ?_;refine zn (b := ((decide (a1 < 0)) || (decide ((qb a0 : Int) ≤ a1)))) rfl (fun hc4 => ?_) (fun hc4 => ?_)
 · rw [if_pos hc4] at h;refine rgN [4, 5, 6] ?_;cases h;exact rtA
 rw [xP hc4] at h;apply zd;apply hZ1;obtain ⟨b5, hb5, h⟩ := bind_some h;have f6 := idx_str (T := tab) (t := 9) rfl rfl hb5;have f7 := xx (T := tab) (src := 5) (dst := 3) rfl rfl rfl
 refine rg tok [0, 1, 7] fun K hK => ?_
 simp only [go_sem, qc, qa, reduceCtorEq, f6, f7];apply hK
 refine rgN [0, 1, 7] ?_;refine xr (fun L τ => ∃ (x8 : Int) (x9 : Int) (x10 : Int), L = [(0, .str a0), (1, .int .i64 a1), (8, .int .i64 x8), (9, .int .i64 x9), (10, .int .i64 x10)] ∧ τ = [] ∧ yy.j11 a0 a1 x8 x9 x10 = some r) ?_ ?_
 · apply ze;refine rgN [0, 1, 7, 26] ?_;refine zw rfl (fun hc35 => ?_) (fun hc35 => ?_)
   · rw [if_pos hc35] at h;have t36 := eq_true hc35;have f37 := xx (T := tab) (src := 3) (dst := 21) rfl rfl rfl
     refine rg tok [4, 5, 6] fun K hK => ?_
     simp only [go_sem, qc, qa, reduceCtorEq, t36, f37];apply hK
     cases h;exact rtA
   rw [if_neg hc35] at h;have t38 := eq_false hc35
   refine rc [0, 1, 7, 31] fun K hK => ?_
   refine zj tok 3 ?_;simp only [go_sem, qc, qa, reduceCtorEq, t38];refine zh 3 (fun L τ => L = [(0, .str a0), (1, .int .i64 a1), (7, .int .i64 (IntKind.i64.wrap (b5.toNat : Int))), (37, .bool ((decide (192 ≤ IntKind.i64.wrap (b5.toNat : Int))) && (decide (IntKind.i64.wrap (b5.toNat : Int) < 224))))] ∧ τ = []) ?_ ?_
   · refine yF 34 rfl (fun hg34 => ?_) (fun hg34 => ?_)
     · have t39 := eq_true hg34;refine rnN 3 ?_;refine zb ⟨rfl, _, _, ⟨rfl, rfl⟩, .p t39⟩
     have t40 := eq_false hg34;refine rnN 3 ?_;refine zb ⟨rfl, _, _, ⟨rfl, rfl⟩, .p t40⟩
   rintro _ _ ⟨rfl, rfl⟩;refine rnN 1 ?_;refine nkN hK ?_;refine zn (b := ((decide (192 ≤ IntKind.i64.wrap (b5.toNat : Int))) && (decide (IntKind.i64.wrap (b5.toNat : Int) < 224)))) rfl (fun hc41 => ?_) (fun hc41 => ?_)
   · rw [if_pos hc41] at h
     refine rgE tok [0, 1, 8, 9, 10] fun K hK => ?_
     simp only [go_sem, qc, qa, reduceCtorEq];apply hK
     exact ⟨_, _, ⟨2, IntKind.i64.wrap ((IntKind.i64.wrap (b5.toNat : Int)) - 192), 128, rfl, rfl, h⟩, .s⟩
   rw [xP hc41] at h
   refine rc [0, 1, 7, 40] fun K hK => ?_
   refine rnN 3 ?_;refine zh 3 (fun L τ => L = [(0, .str a0), (1, .int .i64 a1), (7, .int .i64 (IntKind.i64.wrap (b5.toNat : Int))), (46, .bool ((decide (224 ≤ IntKind.i64.wrap (b5.toNat : Int))) && (decide (IntKind.i64.wrap (b5.toNat : Int) < 240))))] ∧ τ = []) ?_ ?_
   · refine yF 43 rfl (fun hg43 => ?_) (fun hg43 => ?_)
     · have t42 := eq_true hg43;refine rnN 3 ?_;refine zb ⟨rfl, _, _, ⟨rfl, rfl⟩, .p t42⟩
     have t43 := eq_false hg43;refine rnN 3 ?_;refine zb ⟨rfl, _, _, ⟨rfl, rfl⟩, .p t43⟩
   rintro _ _ ⟨rfl, rfl⟩;refine rnN 1 ?_;refine nkN hK ?_;refine zn (b := ((decide (224 ≤ IntKind.i64.wrap (b5.toNat : Int))) && (decide (IntKind.i64.wrap (b5.toNat : Int) < 240)))) rfl (fun hc44 => ?_) (fun hc44 => ?_)
   · rw [if_pos hc44] at h
     refine rgE tok [0, 1, 8, 9, 10] fun K hK => ?_
     simp only [go_sem, qc, qa, reduceCtorEq];apply hK
     exact ⟨_, _, ⟨3, IntKind.i64.wrap ((IntKind.i64.wrap (b5.toNat : Int)) - 224), 2048, rfl, rfl, h⟩, .s⟩
   rw [xP hc44] at h
   refine rc [0, 1, 7, 49] fun K hK => ?_
   refine rnN 3 ?_;refine zh 3 (fun L τ => L = [(0, .str a0), (1, .int .i64 a1), (7, .int .i64 (IntKind.i64.wrap (b5.toNat : Int))), (55, .bool ((decide (240 ≤ IntKind.i64.wrap (b5.toNat : Int))) && (decide (IntKind.i64.wrap (b5.toNat : Int) < 248))))] ∧ τ = []) ?_ ?_
   · refine yF 52 rfl (fun hg52 => ?_) (fun hg52 => ?_)
     · have t45 := eq_true hg52;refine rnN 3 ?_;refine zb ⟨rfl, _, _, ⟨rfl, rfl⟩, .p t45⟩
     have t46 := eq_false hg52;refine rnN 3 ?_;refine zb ⟨rfl, _, _, ⟨rfl, rfl⟩, .p t46⟩
   rintro _ _ ⟨rfl, rfl⟩;refine rnN 1 ?_;refine nkN hK ?_;refine zn (b := ((decide (240 ≤ IntKind.i64.wrap (b5.toNat : Int))) && (decide (IntKind.i64.wrap (b5.toNat : Int) < 248)))) rfl (fun hc47 => ?_) (fun hc47 => ?_)
   · rw [if_pos hc47] at h
     refine rgE tok [0, 1, 8, 9, 10] fun K hK => ?_
     simp only [go_sem, qc, qa, reduceCtorEq];apply hK
     exact ⟨_, _, ⟨4, IntKind.i64.wrap ((IntKind.i64.wrap (b5.toNat : Int)) - 240), 65536, rfl, rfl, h⟩, .s⟩
   rw [xP hc47] at h;refine rgN [4, 5, 6] ?_;cases h;exact rtA
 rintro _ _ ⟨x8, x9, x10, rfl, rfl, h⟩;unfold yy.j11 at h
 refine za fun Z12 hZ12 => ?_
 refine rgN [0, 1, 8, 9, 10, 11] ?_;apply ze;refine zr (fun m L τ => ∃ (k17 : Nat) (x13 : Int) (x14 : Int), m = 0 + k17 ∧ L = [(0, .str a0), (1, .int .i64 a1), (8, .int .i64 x8), (9, .int .i64 x13), (10, .int .i64 x10), (11, .int .i64 x14)] ∧ τ = [] ∧ yy.l17 a0 a1 x8 x10 k17 x13 x14 = some r) _ ⟨rounds, x9, 1, rfl, rfl, rfl, h⟩ .s ?_;rintro m L τ ⟨k17, x13, x14, rfl, rfl, rfl, h⟩
 rcases k17 with _ | k17
 · cases h
 simp only [yy.l17] at h
 refine za fun Z18 hZ18 => ?_
 refine rgN [0, 1, 8, 9, 10, 11, 60] ?_;refine zw rfl (fun hc19 => ?_) (fun hc19 => ?_)
 · rw [if_pos hc19] at h;have t20 := eq_true hc19;apply zd;apply hZ18
   refine za fun Z21 hZ21 => ?_
   apply ze
   refine rc [0, 1, 8, 9, 10, 11, 12] fun K hK => ?_
   obtain ⟨r22, hr22, h⟩ := bind_some h;refine zj tok 4 ?_;simp only [go_sem, qc, qa, reduceCtorEq, t20];refine clN rfl rfl rfl (w4.ev a0 (IntKind.i64.wrap (a1 + x14)) r22 hr22 _) ?_;refine rnN 1 ?_;refine nkN hK ?_
   refine za fun Z23 hZ23 => ?_
   refine rgN [0, 1, 8, 9, 10, 11, 12, 69] ?_;refine zw rfl (fun hc24 => ?_) (fun hc24 => ?_)
   · rw [if_pos hc24] at h;have t25 := eq_true hc24
     refine rg tok [4, 5, 6] fun K hK => ?_
     simp only [go_sem, qc, qa, reduceCtorEq, t25];apply hK
     cases h;exact rtA
   rw [if_neg hc24] at h;have t26 := eq_false hc24;apply zd;apply hZ23
   refine rgE tok [0, 1, 8, 9, 10, 11] fun K hK => ?_
   simp only [go_sem, qc, qa, reduceCtorEq, t26];apply hK
   apply hZ21
   refine rgE tok [0, 1, 8, 9, 10, 11] fun K hK => ?_
   simp only [go_sem, qc, qa, reduceCtorEq];apply hK
   exact ⟨_, _, _, qs (0 + k17), ⟨k17, IntKind.i64.wrap ((IntKind.i64.wrap (64 * x13)) + r22), IntKind.i64.wrap (x14 + 1), rfl, rfl, rfl, h⟩, .s⟩
 rw [if_neg hc19] at h;have t27 := eq_false hc19;apply zy;apply hZ12
 refine za fun Z28 hZ28 => ?_
 refine rc [8, 9, 88] fun K hK => ?_
 refine zj tok 4 ?_;simp only [go_sem, qc, qa, reduceCtorEq, t27];refine zh 3 (fun L τ => L = [(8, .int .i64 x8), (9, .int .i64 x13), (80, .bool ((decide (x13 < x10)) || (decide (1114111 < x13))))] ∧ τ = []) ?_ ?_
 · refine yF 77 rfl (fun hg77 => ?_) (fun hg77 => ?_)
   · have t29 := eq_true hg77;refine rnN 3 ?_;refine zb ⟨rfl, _, _, ⟨rfl, rfl⟩, .p t29⟩
   have t30 := eq_false hg77;refine rnN 3 ?_;refine zb ⟨rfl, _, _, ⟨rfl, rfl⟩, .p t30⟩
 rintro _ _ ⟨rfl, rfl⟩;refine rnN 1 ?_;refine zh 7 (fun L τ => L = [(8, .int .i64 x8), (9, .int .i64 x13), (88, .bool (((decide (x13 < x10)) || (decide (1114111 < x13))) || ((decide (55296 ≤ x13)) && (decide (x13 ≤ 57343)))))] ∧ τ = []) ?_ ?_
 · refine zI (b := ((decide (x13 < x10)) || (decide (1114111 < x13)))) 81 rfl (fun hg81 => ?_) (fun hg81 => ?_)
   · refine rnN 7 ?_;refine zb ⟨rfl, _, _, ⟨rfl, rfl⟩, .b hg81⟩
   refine rnN 3 ?_;refine zh 3 (fun L τ => L = [(8, .int .i64 x8), (9, .int .i64 x13), (81, .bool false), (87, .bool ((decide (55296 ≤ x13)) && (decide (x13 ≤ 57343))))] ∧ τ = []) ?_ ?_
   · refine yF 84 rfl (fun hg84 => ?_) (fun hg84 => ?_)
     · have t31 := eq_true hg84;refine rnN 3 ?_;refine zb ⟨rfl, _, _, ⟨rfl, rfl⟩, .p t31⟩
     have t32 := eq_false hg84;refine rnN 3 ?_;refine zb ⟨rfl, _, _, ⟨rfl, rfl⟩, .p t32⟩
   rintro _ _ ⟨rfl, rfl⟩;refine rnN 1 ?_;refine zb ⟨rfl, _, _, ⟨rfl, rfl⟩, .b hg81⟩
 rintro _ _ ⟨rfl, rfl⟩;refine nkN hK ?_;refine zn (b := (((decide (x13 < x10)) || (decide (1114111 < x13))) || ((decide (55296 ≤ x13)) && (decide (x13 ≤ 57343))))) rfl (fun hc33 => ?_) (fun hc33 => ?_)
 · rw [if_pos hc33] at h;refine rgN [4, 5, 6] ?_;cases h;exact rtA
 rw [xP hc33] at h;apply zd;apply hZ28;have f34 := xx (T := tab) (src := 3) (dst := 21) rfl rfl rfl
 refine rg tok [4, 5, 6] fun K hK => ?_
 simp only [go_sem, qc, qa, f34];apply hK
 cases h;exact rtA
end
section
set_option maxRecDepth 4000
set_option maxHeartbeats 1000000
open AM
theorem yy.ev (a0 : List UInt8) (a1 : Int) (r : Int × Int × Bool) (h : yy a0 a1 = some r) (σ : Store) : ACalls qh 120 [.str a0, .int .i64 a1] σ (fun r' σ' => r' = .tup [.int .i32 r.1, .int .i64 r.2.1, .bool r.2.2] ∧ σ' = σ) :=
 (yy.ok a0 a1 r h).c σ
def wa.l8 (a0 : List UInt8) : Nat → List Int → Int → Option (List Int × Bool)
 | 0, _, _ => none
 | k8 + 1, l2, x4 => (if x4 < (qb a0 : Int) then (yy a0 x4).bind fun r12 => (if (!r12.2.2) = true then some (([] : List Int), false) else (Yf (qb l2 + 1) 4).bind fun _u15 => ((wa.l8 a0 k8) (l2 ++ [r12.1]) (IntKind.i64.wrap (x4 + r12.2.1)))) else some (l2, true))
def wa (a0 : List UInt8) : Option (List Int × Bool) :=
 (wa.l8 a0 rounds ([] : List Int) 0)
theorem wa.ok (a0 : List UInt8) (r : List Int × Bool) (h : wa a0 = some r) : ACalls qh 78 [.str a0] [] (fun r' _ => r' = .tup [.ds true (qe (vb7 .i32) r.1) (qb r.1) false, .bool r.2]) := by
 refine zf (rs := [.tmp 2, .tmp 3]) tok Tryz.func78 rfl Tryz.ntmps78 rfl Tryz.call78 (by simp) ?_;refine zl [(0, .str a0)] ⟨rfl, trivial⟩ ?_;unfold wa at h;refine rgN [0] ?_;refine rgN [0, 4] ?_;refine wN 4 1 rfl ?_;refine zV (L := [(0, .str a0), (4, .os true 1 0 0 0 (qb ([] : List Int)) false)]) (τ := [.cells 0 (qe (vb7 .i32) ([] : List Int))]) .s ?_
 refine za fun Z1 hZ1 => ?_
 refine rgN [0, 4, 5] ?_;apply ze;refine zr (fun m L τ => ∃ (k8 : Nat) (l2 : List Int) (x4 : Int) (v3 : Nat), m = 0 + k8 ∧ L = [(0, .str a0), (4, .os true 1 0 v3 0 (qb l2) false), (5, .int .i64 x4)] ∧ τ = [.cells v3 (qe (vb7 .i32) l2)] ∧ wa.l8 a0 k8 l2 x4 = some r) _ ⟨rounds, ([] : List Int), 0, 0, rfl, rfl, rfl, h⟩ .s ?_;rintro m L τ ⟨k8, l2, x4, v3, rfl, rfl, rfl, h⟩
 rcases k8 with _ | k8
 · cases h
 simp only [wa.l8] at h
 refine za fun Z9 hZ9 => ?_
 refine rgN [0, 4, 5, 12] ?_;refine zw rfl (fun hc10 => ?_) (fun hc10 => ?_)
 · rw [if_pos hc10] at h;have t11 := eq_true hc10;apply zd;apply hZ9;apply ze
   refine rc [0, 4, 5, 6, 7, 8] fun K hK => ?_
   obtain ⟨r12, hr12, h⟩ := bind_some h;refine zj tok 2 ?_;simp only [go_sem, qc, qa, reduceCtorEq, t11];refine clN rfl rfl rfl (yy.ev a0 x4 r12 hr12 _) ?_;refine rnN 7 ?_;refine nkN hK ?_
   refine za fun Z13 hZ13 => ?_
   refine rgN [0, 4, 5, 6, 7, 21] ?_;refine zn (b := (!r12.2.2)) rfl (fun hc14 => ?_) (fun hc14 => ?_)
   · rw [if_pos hc14] at h;refine rgN [2, 3] ?_;cases h;exact rtA
   rw [xP hc14] at h;apply zd;apply hZ13;obtain ⟨_u15, hu15, h⟩ := bind_some h;have gu15 := yi hu15;have f16 := (zv E130.len l2)
   refine rg tok [0, 4, 5, 7] fun K hK => ?_
   simp only [go_sem, qc, qf, qa, qt, reduceCtorEq, zN, z6, q9, qY, true_and, ue, z8, zO, yj, gu15, f16, yB, ua, qW, AV.one, qU, qA, qj, ql, qn, qE];apply hK
   refine zV (L := [(0, .str a0), (4, .os true 1 0 (v3 + 1) 0 (qb (l2 ++ [r12.1])) false), (5, .int .i64 x4), (7, .int .i64 r12.2.1)]) (τ := [.cells (v3 + 1) (qe (vb7 .i32) (l2 ++ [r12.1])), .cells 0 [.int .i32 r12.1]]) .s ?_
   refine rgE tok [0, 4, 5] fun K hK => ?_
   simp only [go_sem, qc, qa, reduceCtorEq];apply hK
   exact ⟨_, _, _, qs (0 + k8), ⟨k8, l2 ++ [r12.1], IntKind.i64.wrap (x4 + r12.2.1), v3 + 1, rfl, rfl, rfl, h⟩, (.t [0] false)⟩
 rw [if_neg hc10] at h;have t17 := eq_false hc10;apply zy;apply hZ1
 refine rg tok [2, 3] fun K hK => ?_
 simp only [go_sem, qc, qa, reduceCtorEq, t17];apply hK
 cases h;exact rtA
theorem wa.ev (a0 : List UInt8) (r : List Int × Bool) (h : wa a0 = some r) (σ : Store) : ACalls qh 78 [.str a0] σ (fun r' σ' => r' = .tup [.ds true (qe (vb7 .i32) r.1) (qb r.1) false, .bool r.2] ∧ σ' = σ) :=
 (wa.ok a0 r h).c σ
def xp (a0 : Int) : Bool :=
 ((((((decide (97 ≤ a0)) && (decide (a0 ≤ 122))) || ((decide (65 ≤ a0)) && (decide (a0 ≤ 90)))) || (decide (a0 = 95))) || ((((decide (192 ≤ a0)) && (decide (a0 ≤ 591))) && (!(decide (a0 = 215)))) && (!(decide (a0 = 247))))) || (((decide (913 ≤ a0)) && (decide (a0 ≤ 969))) && (!(decide (a0 = 930)))))
theorem xp.ok (a0 : Int) (r : Bool) (h : xp a0 = r) : ACalls qh 79 [.int .i32 a0] [] (fun r' _ => r' = .bool r) := by
 refine zf (rs := [.tmp 2]) tok Tryz.func79 rfl Tryz.ntmps79 rfl Tryz.call79 (by simp) ?_;refine zl [(0, .int .i32 a0)] ⟨rfl, trivial⟩ ?_;unfold xp at h;refine rgN [0] ?_
 refine rc [2] fun K hK => ?_
 refine rnN 3 ?_;refine zh 3 (fun L τ => L = [(0, .int .i32 a0), (8, .bool ((decide (97 ≤ a0)) && (decide (a0 ≤ 122))))] ∧ τ = []) ?_ ?_
 · refine yF 5 rfl (fun hg5 => ?_) (fun hg5 => ?_)
   · have t1 := eq_true hg5;refine rnN 3 ?_;refine zb ⟨rfl, _, _, ⟨rfl, rfl⟩, .p t1⟩
   have t2 := eq_false hg5;refine rnN 3 ?_;refine zb ⟨rfl, _, _, ⟨rfl, rfl⟩, .p t2⟩
 rintro _ _ ⟨rfl, rfl⟩;refine rnN 1 ?_;refine zh 7 (fun L τ => L = [(0, .int .i32 a0), (16, .bool (((decide (97 ≤ a0)) && (decide (a0 ≤ 122))) || ((decide (65 ≤ a0)) && (decide (a0 ≤ 90)))))] ∧ τ = []) ?_ ?_
 · refine zI (b := ((decide (97 ≤ a0)) && (decide (a0 ≤ 122)))) 9 rfl (fun hg9 => ?_) (fun hg9 => ?_)
   · refine rnN 7 ?_;refine zb ⟨rfl, _, _, ⟨rfl, rfl⟩, .b hg9⟩
   refine rnN 3 ?_;refine zh 3 (fun L τ => L = [(0, .int .i32 a0), (9, .bool false), (15, .bool ((decide (65 ≤ a0)) && (decide (a0 ≤ 90))))] ∧ τ = []) ?_ ?_
   · refine yF 12 rfl (fun hg12 => ?_) (fun hg12 => ?_)
     · have t3 := eq_true hg12;refine rnN 3 ?_;refine zb ⟨rfl, _, _, ⟨rfl, rfl⟩, .p t3⟩
     have t4 := eq_false hg12;refine rnN 3 ?_;refine zb ⟨rfl, _, _, ⟨rfl, rfl⟩, .p t4⟩
   rintro _ _ ⟨rfl, rfl⟩;refine rnN 1 ?_;refine zb ⟨rfl, _, _, ⟨rfl, rfl⟩, .b hg9⟩
 rintro _ _ ⟨rfl, rfl⟩;refine rnN 1 ?_;refine zh 3 (fun L τ => L = [(0, .int .i32 a0), (20, .bool ((((decide (97 ≤ a0)) && (decide (a0 ≤ 122))) || ((decide (65 ≤ a0)) && (decide (a0 ≤ 90)))) || (decide (a0 = 95))))] ∧ τ = []) ?_ ?_
 · refine zI (b := (((decide (97 ≤ a0)) && (decide (a0 ≤ 122))) || ((decide (65 ≤ a0)) && (decide (a0 ≤ 90))))) 17 rfl (fun hg17 => ?_) (fun hg17 => ?_)
   · refine rnN 3 ?_;refine zb ⟨rfl, _, _, ⟨rfl, rfl⟩, .b hg17⟩
   refine rnN 3 ?_;refine zb ⟨rfl, _, _, ⟨rfl, rfl⟩, .b hg17⟩
 rintro _ _ ⟨rfl, rfl⟩;refine rnN 1 ?_;refine zh 15 (fun L τ => L = [(0, .int .i32 a0), (36, .bool (((((decide (97 ≤ a0)) && (decide (a0 ≤ 122))) || ((decide (65 ≤ a0)) && (decide (a0 ≤ 90)))) || (decide (a0 = 95))) || ((((decide (192 ≤ a0)) && (decide (a0 ≤ 591))) && (!(decide (a0 = 215)))) && (!(decide (a0 = 247))))))] ∧ τ = []) ?_ ?_
 · refine zI (b := ((((decide (97 ≤ a0)) && (decide (a0 ≤ 122))) || ((decide (65 ≤ a0)) && (decide (a0 ≤ 90)))) || (decide (a0 = 95)))) 21 rfl (fun hg21 => ?_) (fun hg21 => ?_)
   · refine rnN 10 ?_;refine rnN 5 ?_;refine zb ⟨rfl, _, _, ⟨rfl, rfl⟩, .b hg21⟩
   refine rnN 3 ?_;refine zh 3 (fun L τ => L = [(0, .int .i32 a0), (21, .bool false), (27, .bool ((decide (192 ≤ a0)) && (decide (a0 ≤ 591))))] ∧ τ = []) ?_ ?_
   · refine yF 24 rfl (fun hg24 => ?_) (fun hg24 => ?_)
     · have t5 := eq_true hg24;refine rnN 3 ?_;refine zb ⟨rfl, _, _, ⟨rfl, rfl⟩, .p t5⟩
     have t6 := eq_false hg24;refine rnN 3 ?_;refine zb ⟨rfl, _, _, ⟨rfl, rfl⟩, .p t6⟩
   rintro _ _ ⟨rfl, rfl⟩;refine rnN 1 ?_;refine zh 3 (fun L τ => L = [(0, .int .i32 a0), (21, .bool false), (31, .bool (((decide (192 ≤ a0)) && (decide (a0 ≤ 591))) && (!(decide (a0 = 215)))))] ∧ τ = []) ?_ ?_
   · refine zI (b := ((decide (192 ≤ a0)) && (decide (a0 ≤ 591)))) 28 rfl (fun hg28 => ?_) (fun hg28 => ?_)
     · refine rnN 3 ?_;refine zb ⟨rfl, _, _, ⟨rfl, rfl⟩, .b hg28⟩
     refine rnN 3 ?_;refine zb ⟨rfl, _, _, ⟨rfl, rfl⟩, .b hg28⟩
   rintro _ _ ⟨rfl, rfl⟩;refine rnN 1 ?_;refine zh 3 (fun L τ => L = [(0, .int .i32 a0), (21, .bool false), (35, .bool ((((decide (192 ≤ a0)) && (decide (a0 ≤ 591))) && (!(decide (a0 = 215)))) && (!(decide (a0 = 247)))))] ∧ τ = []) ?_ ?_
   · refine zI (b := (((decide (192 ≤ a0)) && (decide (a0 ≤ 591))) && (!(decide (a0 = 215))))) 32 rfl (fun hg32 => ?_) (fun hg32 => ?_)
     · refine rnN 3 ?_;refine zb ⟨rfl, _, _, ⟨rfl, rfl⟩, .b hg32⟩
     refine rnN 3 ?_;refine zb ⟨rfl, _, _, ⟨rfl, rfl⟩, .b hg32⟩
   rintro _ _ ⟨rfl, rfl⟩;refine rnN 1 ?_;refine zb ⟨rfl, _, _, ⟨rfl, rfl⟩, .b hg21⟩
 rintro _ _ ⟨rfl, rfl⟩;refine rnN 1 ?_;refine zh 11 (fun L τ => L = [(48, .bool ((((((decide (97 ≤ a0)) && (decide (a0 ≤ 122))) || ((decide (65 ≤ a0)) && (decide (a0 ≤ 90)))) || (decide (a0 = 95))) || ((((decide (192 ≤ a0)) && (decide (a0 ≤ 591))) && (!(decide (a0 = 215)))) && (!(decide (a0 = 247))))) || (((decide (913 ≤ a0)) && (decide (a0 ≤ 969))) && (!(decide (a0 = 930))))))] ∧ τ = []) ?_ ?_
 · refine zI (b := (((((decide (97 ≤ a0)) && (decide (a0 ≤ 122))) || ((decide (65 ≤ a0)) && (decide (a0 ≤ 90)))) || (decide (a0 = 95))) || ((((decide (192 ≤ a0)) && (decide (a0 ≤ 591))) && (!(decide (a0 = 215)))) && (!(decide (a0 = 247)))))) 37 rfl (fun hg37 => ?_) (fun hg37 => ?_)
   · refine rnN 10 ?_;refine rnN 1 ?_;refine zb ⟨rfl, _, _, ⟨rfl, rfl⟩, .b hg37⟩
   refine rnN 3 ?_;refine zh 3 (fun L τ => L = [(0, .int .i32 a0), (37, .bool false), (43, .bool ((decide (913 ≤ a0)) && (decide (a0 ≤ 969))))] ∧ τ = []) ?_ ?_
   · refine yF 40 rfl (fun hg40 => ?_) (fun hg40 => ?_)
     · have t7 := eq_true hg40;refine rnN 3 ?_;refine zb ⟨rfl, _, _, ⟨rfl, rfl⟩, .p t7⟩
     have t8 := eq_false hg40;refine rnN 3 ?_;refine zb ⟨rfl, _, _, ⟨rfl, rfl⟩, .p t8⟩
   rintro _ _ ⟨rfl, rfl⟩;refine rnN 1 ?_;refine zh 3 (fun L τ => L = [(37, .bool false), (47, .bool (((decide (913 ≤ a0)) && (decide (a0 ≤ 969))) && (!(decide (a0 = 930)))))] ∧ τ = []) ?_ ?_
   · refine zI (b := ((decide (913 ≤ a0)) && (decide (a0 ≤ 969)))) 44 rfl (fun hg44 => ?_) (fun hg44 => ?_)
     · refine rnN 3 ?_;refine zb ⟨rfl, _, _, ⟨rfl, rfl⟩, .b hg44⟩
     refine rnN 3 ?_;refine zb ⟨rfl, _, _, ⟨rfl, rfl⟩, .b hg44⟩
   rintro _ _ ⟨rfl, rfl⟩;refine rnN 1 ?_;refine zb ⟨rfl, _, _, ⟨rfl, rfl⟩, .b hg37⟩
 rintro _ _ ⟨rfl, rfl⟩;refine rnN 1 ?_;refine nkN hK ?_;cases h;exact rtA
theorem xp.ev (a0 : Int) (r : Bool) (h : xp a0 = r) (σ : Store) : ACalls qh 79 [.int .i32 a0] σ (fun r' σ' => r' = .bool r ∧ σ' = σ) :=
 (xp.ok a0 r h).c σ
def xg.j3 (x2 : Bool) : Bool :=
 (if x2 = true then true else false)
def xg (a0 : List UInt8) : Bool :=
 (if a0 = [115, 99, 104, 101, 109, 97] then (xg.j3 (decide (a0 = [115, 99, 104, 101, 109, 97]))) else (if a0 = [109, 101, 115, 115, 97, 103, 101] then (xg.j3 (decide (a0 = [109, 101, 115, 115, 97, 103, 101]))) else (if a0 = [101, 110, 117, 109] then (xg.j3 (decide (a0 = [101, 110, 117, 109]))) else (if a0 = [99, 97, 108, 108] then (xg.j3 (decide (a0 = [99, 97, 108, 108]))) else (if a0 = [114, 101, 116, 117, 114, 110, 115] then (xg.j3 (decide (a0 = [114, 101, 116, 117, 114, 110, 115]))) else (if a0 = [114, 101, 115, 101, 114, 118, 101, 100] then (xg.j3 (decide (a0 = [114, 101, 115, 101, 114, 118, 101, 100]))) else (if a0 = [111, 112, 116, 105, 111, 110, 97, 108] then (xg.j3 (decide (a0 = [111, 112, 116, 105, 111, 110, 97, 108]))) else (if a0 = [114, 101, 112, 101, 97, 116, 101, 100] then (xg.j3 (decide (a0 = [114, 101, 112, 101, 97, 116, 101, 100]))) else (if a0 = [105, 110, 116, 51, 50] then (xg.j3 (decide (a0 = [105, 110, 116, 51, 50]))) else (if a0 = [105, 110, 116, 54, 52] then (xg.j3 (decide (a0 = [105, 110, 116, 54, 52]))) else (if a0 = [98, 111, 111, 108] then (xg.j3 (decide (a0 = [98, 111, 111, 108]))) else (if a0 = [116, 101, 120, 116] then (xg.j3 (decide (a0 = [116, 101, 120, 116]))) else (xg.j3 (decide (a0 = [98, 121, 116, 101, 115])))))))))))))))
theorem xg.ok (a0 : List UInt8) (r : Bool) (h : xg a0 = r) : ACalls qh 80 [.str a0] [] (fun r' _ => r' = .bool r) := by
 refine zf (rs := [.tmp 2]) tok Tryz.func80 rfl Tryz.ntmps80 rfl Tryz.call80 (by simp) ?_;refine zl [(0, .str a0)] ⟨rfl, trivial⟩ ?_;unfold xg at h;refine rgN [0] ?_
 refine za fun Z1 hZ1 => ?_
 refine rgN [3] ?_;apply ze;refine xr (fun L τ => ∃ (x2 : Bool), L = [(4, .bool x2)] ∧ τ = [] ∧ xg.j3 x2 = r) ?_ ?_
 · refine rgN [3, 4] ?_;refine zw rfl (fun hc5 => ?_) (fun hc5 => ?_)
   · rw [if_pos hc5] at h;have t6 := eq_true hc5;apply zd;exact ⟨_, _, ⟨decide (a0 = [115, 99, 104, 101, 109, 97]), rfl, rfl, h⟩, .s⟩
   rw [if_neg hc5] at h;have t7 := eq_false hc5
   refine rg tok [3, 4] fun K hK => ?_
   simp only [go_sem, qc, qa, t7];apply hK
   refine zw rfl (fun hc8 => ?_) (fun hc8 => ?_)
   · rw [if_pos hc8] at h;have t9 := eq_true hc8;apply zd;exact ⟨_, _, ⟨decide (a0 = [109, 101, 115, 115, 97, 103, 101]), rfl, rfl, h⟩, .s⟩
   rw [if_neg hc8] at h;have t10 := eq_false hc8
   refine rg tok [3, 4] fun K hK => ?_
   simp only [go_sem, qc, qa, t10];apply hK
   refine zw rfl (fun hc11 => ?_) (fun hc11 => ?_)
   · rw [if_pos hc11] at h;have t12 := eq_true hc11;apply zd;exact ⟨_, _, ⟨decide (a0 = [101, 110, 117, 109]), rfl, rfl, h⟩, .s⟩
   rw [if_neg hc11] at h;have t13 := eq_false hc11
   refine rg tok [3, 4] fun K hK => ?_
   simp only [go_sem, qc, qa, t13];apply hK
   refine zw rfl (fun hc14 => ?_) (fun hc14 => ?_)
   · rw [if_pos hc14] at h;have t15 := eq_true hc14;apply zd;exact ⟨_, _, ⟨decide (a0 = [99, 97, 108, 108]), rfl, rfl, h⟩, .s⟩
   rw [if_neg hc14] at h;have t16 := eq_false hc14
   refine rg tok [3, 4] fun K hK => ?_
   simp only [go_sem, qc, qa, t16];apply hK
   refine zw rfl (fun hc17 => ?_) (fun hc17 => ?_)
   · rw [if_pos hc17] at h;have t18 := eq_true hc17;apply zd;exact ⟨_, _, ⟨decide (a0 = [114, 101, 116, 117, 114, 110, 115]), rfl, rfl, h⟩, .s⟩
   rw [if_neg hc17] at h;have t19 := eq_false hc17
   refine rg tok [3, 4] fun K hK => ?_
   simp only [go_sem, qc, qa, t19];apply hK
   refine zw rfl (fun hc20 => ?_) (fun hc20 => ?_)
   · rw [if_pos hc20] at h;have t21 := eq_true hc20;apply zd;exact ⟨_, _, ⟨decide (a0 = [114, 101, 115, 101, 114, 118, 101, 100]), rfl, rfl, h⟩, .s⟩
   rw [if_neg hc20] at h;have t22 := eq_false hc20
   refine rg tok [3, 4] fun K hK => ?_
   simp only [go_sem, qc, qa, t22];apply hK
   refine zw rfl (fun hc23 => ?_) (fun hc23 => ?_)
   · rw [if_pos hc23] at h;have t24 := eq_true hc23;apply zd;exact ⟨_, _, ⟨decide (a0 = [111, 112, 116, 105, 111, 110, 97, 108]), rfl, rfl, h⟩, .s⟩
   rw [if_neg hc23] at h;have t25 := eq_false hc23
   refine rg tok [3, 4] fun K hK => ?_
   simp only [go_sem, qc, qa, t25];apply hK
   refine zw rfl (fun hc26 => ?_) (fun hc26 => ?_)
   · rw [if_pos hc26] at h;have t27 := eq_true hc26;apply zd;exact ⟨_, _, ⟨decide (a0 = [114, 101, 112, 101, 97, 116, 101, 100]), rfl, rfl, h⟩, .s⟩
   rw [if_neg hc26] at h;have t28 := eq_false hc26
   refine rg tok [3, 4] fun K hK => ?_
   simp only [go_sem, qc, qa, t28];apply hK
   refine zw rfl (fun hc29 => ?_) (fun hc29 => ?_)
   · rw [if_pos hc29] at h;have t30 := eq_true hc29;apply zd;exact ⟨_, _, ⟨decide (a0 = [105, 110, 116, 51, 50]), rfl, rfl, h⟩, .s⟩
   rw [if_neg hc29] at h;have t31 := eq_false hc29
   refine rg tok [3, 4] fun K hK => ?_
   simp only [go_sem, qc, qa, t31];apply hK
   refine zw rfl (fun hc32 => ?_) (fun hc32 => ?_)
   · rw [if_pos hc32] at h;have t33 := eq_true hc32;apply zd;exact ⟨_, _, ⟨decide (a0 = [105, 110, 116, 54, 52]), rfl, rfl, h⟩, .s⟩
   rw [if_neg hc32] at h;have t34 := eq_false hc32
   refine rg tok [3, 4] fun K hK => ?_
   simp only [go_sem, qc, qa, t34];apply hK
   refine zw rfl (fun hc35 => ?_) (fun hc35 => ?_)
   · rw [if_pos hc35] at h;have t36 := eq_true hc35;apply zd;exact ⟨_, _, ⟨decide (a0 = [98, 111, 111, 108]), rfl, rfl, h⟩, .s⟩
   rw [if_neg hc35] at h;have t37 := eq_false hc35
   refine rg tok [3, 4] fun K hK => ?_
   simp only [go_sem, qc, qa, t37];apply hK
   refine zw rfl (fun hc38 => ?_) (fun hc38 => ?_)
   · rw [if_pos hc38] at h;have t39 := eq_true hc38;apply zd;exact ⟨_, _, ⟨decide (a0 = [116, 101, 120, 116]), rfl, rfl, h⟩, .s⟩
   rw [if_neg hc38] at h;have t40 := eq_false hc38
   refine rgE tok [4] fun K hK => ?_
   simp only [go_sem, qc, qa, t40];apply hK
   exact ⟨_, _, ⟨decide (a0 = [98, 121, 116, 101, 115]), rfl, rfl, h⟩, .s⟩
 rintro _ _ ⟨x2, rfl, rfl, h⟩;unfold xg.j3 at h;refine zn (b := x2) rfl (fun hc4 => ?_) (fun hc4 => ?_)
 · rw [if_pos hc4] at h;refine rgN [2] ?_;cases h;exact rtA
 rw [xP hc4] at h;apply zd;apply hZ1;refine rgN [2] ?_;cases h;exact rtA
theorem xg.ev (a0 : List UInt8) (r : Bool) (h : xg a0 = r) (σ : Store) : ACalls qh 80 [.str a0] σ (fun r' σ' => r' = .bool r ∧ σ' = σ) :=
 (xg.ok a0 r h).c σ
def we (a0 : Int) : Bool :=
 ((decide (48 ≤ a0)) && (decide (a0 ≤ 57)))
theorem we.ok (a0 : Int) (r : Bool) (h : we a0 = r) : ACalls qh 81 [.int .i32 a0] [] (fun r' _ => r' = .bool r) := by
 refine zf (rs := [.tmp 2]) tok Tryz.func81 rfl Tryz.ntmps81 rfl Tryz.call81 (by simp) ?_;refine zl [(0, .int .i32 a0)] ⟨rfl, trivial⟩ ?_;unfold we at h;refine rgN [0] ?_
 refine rc [2] fun K hK => ?_
 refine rnN 3 ?_;refine zh 3 (fun L τ => L = [(8, .bool ((decide (48 ≤ a0)) && (decide (a0 ≤ 57))))] ∧ τ = []) ?_ ?_
 · refine yF 5 rfl (fun hg5 => ?_) (fun hg5 => ?_)
   · have t1 := eq_true hg5;refine rnN 3 ?_;refine zb ⟨rfl, _, _, ⟨rfl, rfl⟩, .p t1⟩
   have t2 := eq_false hg5;refine rnN 3 ?_;refine zb ⟨rfl, _, _, ⟨rfl, rfl⟩, .p t2⟩
 rintro _ _ ⟨rfl, rfl⟩;refine rnN 1 ?_;refine nkN hK ?_;cases h;exact rtA
theorem we.ev (a0 : Int) (r : Bool) (h : we a0 = r) (σ : Store) : ACalls qh 81 [.int .i32 a0] σ (fun r' σ' => r' = .bool r ∧ σ' = σ) :=
 (we.ok a0 r h).c σ
def xb.l14 (r1 : List Int × Bool) : Nat → Int → Option Bool
 | 0, _ => none
 | k14 + 1, x12 => (if x12 < (qb r1.1 : Int) then (Zb r1.1 x12).bind fun y19 => bnd (xp y19) fun r22 => bnd (if (!r22) = true then bnd (we y19) fun r25 => !r25 else false) fun c23 => (if c23 = true then some false else ((xb.l14 r1 k14) (IntKind.i64.wrap (x12 + 1)))) else some true)
def xb (a0 : List UInt8) : Option Bool :=
 (wa a0).bind fun r1 => (if (((!r1.2) || (decide ((qb r1.1 : Int) < 1))) || (decide (20 < (qb r1.1 : Int)))) = true then some true else (Zb r1.1 0).bind fun y3 => bnd (xp y3) fun r6 => some (!r6)).bind fun c3 => bnd (if c3 = true then true else bnd (xg a0) fun r8 => r8) fun c8 => (if c8 = true then some false else (xb.l14 r1 rounds 1))
theorem xb.ok (a0 : List UInt8) (r : Bool) (h : xb a0 = some r) : ACalls qh 45 [.str a0] [] (fun r' _ => r' = .bool r) := by
 refine zf (rs := [.tmp 2]) tok Tryz.func45 rfl Tryz.ntmps45 rfl Tryz.call45 (by simp) ?_;refine zl [(0, .str a0)] ⟨rfl, trivial⟩ ?_;unfold xb at h;refine rgN [0] ?_
 refine rc [0, 3, 4] fun K hK => ?_
 obtain ⟨r1, hr1, h⟩ := bind_some h;refine rnN 1 ?_;refine clN rfl rfl rfl (wa.ev a0 r1 hr1 _) ?_;refine rnN 5 ?_;refine nkN hK ?_
 refine za fun Z2 hZ2 => ?_
 refine rc [3, 33] fun K hK => ?_
 refine rnN 3 ?_;refine zh 4 (fun L τ => L = [(0, .str a0), (3, .ds true (qe (vb7 .i32) r1.1) (qb r1.1) false), (17, .bool ((!r1.2) || (decide ((qb r1.1 : Int) < 1))))] ∧ τ = []) ?_ ?_
 · refine zI (b := (!r1.2)) 13 rfl (fun hg13 => ?_) (fun hg13 => ?_)
   · refine rnN 4 ?_;refine zb ⟨rfl, _, _, ⟨rfl, rfl⟩, .b hg13⟩
   refine rnN 4 ?_;refine zb ⟨rfl, _, _, ⟨rfl, rfl⟩, .b hg13⟩
 rintro _ _ ⟨rfl, rfl⟩;refine rnN 1 ?_;refine zh 4 (fun L τ => L = [(0, .str a0), (3, .ds true (qe (vb7 .i32) r1.1) (qb r1.1) false), (22, .bool (((!r1.2) || (decide ((qb r1.1 : Int) < 1))) || (decide (20 < (qb r1.1 : Int)))))] ∧ τ = []) ?_ ?_
 · refine zI (b := ((!r1.2) || (decide ((qb r1.1 : Int) < 1)))) 18 rfl (fun hg18 => ?_) (fun hg18 => ?_)
   · refine rnN 4 ?_;refine zb ⟨rfl, _, _, ⟨rfl, rfl⟩, .b hg18⟩
   refine rnN 4 ?_;refine zb ⟨rfl, _, _, ⟨rfl, rfl⟩, .b hg18⟩
 rintro _ _ ⟨rfl, rfl⟩;refine rnN 1 ?_;obtain ⟨c3, hc3, h⟩ := bind_some h;refine zh 6 (fun L τ => L = [(0, .str a0), (3, .ds true (qe (vb7 .i32) r1.1) (qb r1.1) false), (29, .bool c3)] ∧ τ = []) ?_ ?_
 · refine zI (b := (((!r1.2) || (decide ((qb r1.1 : Int) < 1))) || (decide (20 < (qb r1.1 : Int))))) 23 rfl (fun hg23 => ?_) (fun hg23 => ?_)
   · rw [if_pos hg23] at hc3;refine rnN 6 ?_;cases hc3;refine zb ⟨rfl, _, _, ⟨rfl, rfl⟩, .b hg23⟩
   rw [xP hg23] at hc3;obtain ⟨y4, hy4, hc3⟩ := bind_some hc3;have f5 := E130.idxS hy4;have f6 := E130.fldS0 (f := 21) rfl rfl hy4;obtain ⟨r7, hr7, hc3⟩ := zS hc3;refine zj tok 3 ?_;simp only [go_sem, qc, qa, reduceCtorEq, vb7, f5, f6];refine clN rfl rfl rfl (xp.ev y4 r7 hr7 _) ?_;refine rnN 2 ?_;cases hc3;refine zb ⟨rfl, _, _, ⟨rfl, rfl⟩, .b hg23⟩
 rintro _ _ ⟨rfl, rfl⟩;refine rnN 1 ?_;obtain ⟨c8, hc8, h⟩ := zS h;refine zh 3 (fun L τ => L = [(3, .ds true (qe (vb7 .i32) r1.1) (qb r1.1) false), (33, .bool c8)] ∧ τ = []) ?_ ?_
 · refine zI (b := c3) 30 rfl (fun hg30 => ?_) (fun hg30 => ?_)
   · rw [if_pos hg30] at hc8;refine rnN 3 ?_;subst hc8;refine zb ⟨rfl, _, _, ⟨rfl, rfl⟩, .b hg30⟩
   rw [xP hg30] at hc8;obtain ⟨r9, hr9, hc8⟩ := zS hc8;refine rnN 1 ?_;refine clN rfl rfl rfl (xg.ev a0 r9 hr9 _) ?_;refine rnN 1 ?_;subst hc8;refine zb ⟨rfl, _, _, ⟨rfl, rfl⟩, .b hg30⟩
 rintro _ _ ⟨rfl, rfl⟩;refine nkN hK ?_;refine zn (b := c8) rfl (fun hc10 => ?_) (fun hc10 => ?_)
 · rw [if_pos hc10] at h;refine rgN [2] ?_;cases h;exact rtA
 rw [xP hc10] at h;apply zd;apply hZ2
 refine za fun Z11 hZ11 => ?_
 refine rgN [3, 5] ?_;apply ze;refine zr (fun m L τ => ∃ (k14 : Nat) (x12 : Int), m = 0 + k14 ∧ L = [(3, .ds true (qe (vb7 .i32) r1.1) (qb r1.1) false), (5, .int .i64 x12)] ∧ τ = [] ∧ xb.l14 r1 k14 x12 = some r) _ ⟨rounds, 1, rfl, rfl, rfl, h⟩ .s ?_;rintro m L τ ⟨k14, x12, rfl, rfl, rfl, h⟩
 rcases k14 with _ | k14
 · cases h
 simp only [xb.l14] at h
 refine za fun Z15 hZ15 => ?_
 refine rgN [3, 5, 37] ?_;refine zw rfl (fun hc16 => ?_) (fun hc16 => ?_)
 · rw [if_pos hc16] at h;have t17 := eq_true hc16;apply zd;apply hZ15
   refine za fun Z18 hZ18 => ?_
   apply ze
   refine rc [3, 5, 53] fun K hK => ?_
   obtain ⟨y19, hy19, h⟩ := bind_some h;have f20 := E130.idxS hy19;have f21 := E130.fldS0 (f := 21) rfl rfl hy19;obtain ⟨r22, hr22, h⟩ := zS h;refine zj tok 4 ?_;simp only [go_sem, qc, qa, vb7, t17, f20, f21];refine clN rfl rfl rfl (xp.ev y19 r22 hr22 _) ?_;refine rnN 2 ?_;obtain ⟨c23, hc23, h⟩ := zS h;refine zh 7 (fun L τ => L = [(3, .ds true (qe (vb7 .i32) r1.1) (qb r1.1) false), (5, .int .i64 x12), (53, .bool c23)] ∧ τ = []) ?_ ?_
   · refine zI (b := (!r22)) 46 rfl (fun hg46 => ?_) (fun hg46 => ?_)
     · rw [if_pos hg46] at hc23;have f24 := E130.idxS hy19;have f25 := E130.fldS0 (f := 21) rfl rfl hy19;obtain ⟨r26, hr26, hc23⟩ := zS hc23;refine zj tok 4 ?_;simp only [go_sem, qc, qa, vb7, f24, f25];refine clN rfl rfl rfl (we.ev y19 r26 hr26 _) ?_;refine rnN 2 ?_;subst hc23;refine zb ⟨rfl, _, _, ⟨rfl, rfl⟩, .b hg46⟩
     rw [xP hg46] at hc23;refine rnN 7 ?_;subst hc23;refine zb ⟨rfl, _, _, ⟨rfl, rfl⟩, .b hg46⟩
   rintro _ _ ⟨rfl, rfl⟩;refine nkN hK ?_;refine zn (b := c23) rfl (fun hc27 => ?_) (fun hc27 => ?_)
   · rw [if_pos hc27] at h;refine rgN [2] ?_;cases h;exact rtA
   rw [xP hc27] at h;apply zd;apply hZ18
   refine rgE tok [3, 5] fun K hK => ?_
   simp only [go_sem, qc, qa];apply hK
   exact ⟨_, _, _, qs (0 + k14), ⟨k14, IntKind.i64.wrap (x12 + 1), rfl, rfl, rfl, h⟩, .s⟩
 rw [if_neg hc16] at h;have t28 := eq_false hc16;apply zy;apply hZ11
 refine rg tok [2] fun K hK => ?_
 simp only [go_sem, qc, qa, t28];apply hK
 cases h;exact rtA
theorem xb.ev (a0 : List UInt8) (r : Bool) (h : xb a0 = some r) (σ : Store) : ACalls qh 45 [.str a0] σ (fun r' σ' => r' = .bool r ∧ σ' = σ) :=
 (xb.ok a0 r h).c σ
def yo.l4 (a0 : List UInt8) : List (List UInt8) → Int → Option Bool
 | [], x2 => (xb a0).bind fun r6 => some r6
 | y4 :: q4, x2 => (if y4 = a0 then some false else ((yo.l4 a0 q4) (x2 + 1)))
def yo (a0 : List UInt8) (a1 : List (List UInt8)) : Option Bool :=
 (yo.l4 a0 a1 0)
theorem yo.ok (a0 : List UInt8) (a1 : List (List UInt8)) (r : Bool) (h : yo a0 a1 = some r) : ACalls qh 47 [.str a0, .ds true (qe encS a1) (qb a1) false] [] (fun r' _ => r' = .bool r) := by
 refine zf (rs := [.tmp 4]) tok Tryz.func47 rfl Tryz.ntmps47 rfl Tryz.call47 (by simp) ?_;refine zl [(0, .str a0), (1, .ds true (qe encS a1) (qb a1) false)] ⟨rfl, rfl, trivial⟩ ?_;unfold yo at h;refine rgN [0, 1] ?_
 refine za fun Z1 hZ1 => ?_
 refine rgN [0, 1, 5] ?_;apply ze
 refine yU 1 fun hb4 => ?_
 replace hb4 : qb a1 ≤ 9223372036854775807 := hb4.1;refine zr (fun m L τ => ∃ (p4 q4 : List (List UInt8)) (x2 : Int), m = qb q4 ∧ L = [(0, .str a0), (1, .ds true (qe encS a1) (qb a1) false), (5, .int .i64 x2)] ∧ τ = [] ∧ a1 = p4 ++ q4 ∧ x2 = (qb p4 : Int) ∧ yo.l4 a0 q4 x2 = some r) _ ⟨[], a1, 0, rfl, rfl, rfl, rfl, rfl, h⟩ .s ?_;rintro m L τ ⟨p4, q4, x2, rfl, rfl, rfl, hE4, hi4, h⟩
 rcases q4 with _ | ⟨y4, q4⟩
 · have hz4 := yq hE4 hi4;simp only [yo.l4] at h
   refine za fun Z5 hZ5 => ?_
   refine rg tok [0, 1, 5, 9] fun K hK => ?_
   simp only [go_sem, qc, qa, reduceCtorEq, hz4];apply hK
   refine zo rfl ?_;apply zy;apply hZ1
   refine rc [4] fun K hK => ?_
   obtain ⟨r6, hr6, h⟩ := bind_some h;refine rnN 1 ?_;refine clN rfl rfl rfl (xb.ev a0 r6 hr6 _) ?_;refine rnN 1 ?_;refine nkN hK ?_;cases h;exact rtA
 obtain ⟨hz4, hw4, hx4, hE'4, hi'4⟩ := zX hE4 hi4 hb4;simp only [yo.l4] at h
 refine za fun Z7 hZ7 => ?_
 refine rg tok [0, 1, 5, 9] fun K hK => ?_
 simp only [go_sem, qc, qa, reduceCtorEq, hz4];apply hK
 refine zq rfl ?_;apply zd;apply hZ7
 refine za fun Z8 hZ8 => ?_
 apply ze;have f9 := E98.idxS hx4;have f10 := E98.fldS0 (f := 9) rfl rfl hx4
 refine rg tok [0, 1, 5, 17] fun K hK => ?_
 simp only [go_sem, qc, qa, reduceCtorEq, encS, f9, f10];apply hK
 refine zw rfl (fun hc11 => ?_) (fun hc11 => ?_)
 · rw [if_pos hc11] at h;have t12 := eq_true hc11
   refine rg tok [4] fun K hK => ?_
   simp only [go_sem, qc, qa, reduceCtorEq, t12];apply hK
   cases h;exact rtA
 rw [if_neg hc11] at h;have t13 := eq_false hc11;apply zd;apply hZ8
 refine rgE tok [0, 1, 5] fun K hK => ?_
 simp only [go_sem, qc, qa, reduceCtorEq, hw4, t13];apply hK
 exact ⟨_, _, _, qs q4.length, ⟨p4 ++ [y4], q4, x2 + 1, rfl, rfl, rfl, hE'4, hi'4, h⟩, .s⟩
def yr.l4 (a1 : Int) : List Int → Int → Bool
 | [], x2 => false
 | y4 :: q4, x2 => (if y4 = a1 then true else ((yr.l4 a1 q4) (x2 + 1)))
def yr (a0 : GMessage) (a1 : Int) : Bool :=
 (yr.l4 a1 a0.fReserved 0)
theorem yr.ok (a0 : GMessage) (a1 : Int) (r : Bool) (h : yr a0 a1 = r) : ACalls qh 121 [.agg (encGMessage a0), .int .i64 a1] [] (fun r' _ => r' = .bool r) := by
 refine zf (rs := [.tmp 4]) tok Tryz.func121 rfl Tryz.ntmps121 rfl Tryz.call121 (by simp) ?_;refine zl [(0, .agg (encGMessage a0)), (1, .int .i64 a1)] ⟨rfl, rfl, trivial⟩ ?_;unfold yr at h
 refine rg tok [1, 2] fun K hK => ?_
 simp only [go_sem, qc, qa, qd, reduceCtorEq, encGMessage];apply hK
 refine za fun Z1 hZ1 => ?_
 refine rgN [1, 2, 5] ?_;apply ze
 refine xA 0 rfl fun hb4 => ?_
 replace hb4 : qb a0.fReserved ≤ 9223372036854775807 := hb4.2.2.1.1;refine zr (fun m L τ => ∃ (p4 q4 : List Int) (x2 : Int), m = qb q4 ∧ L = [(1, .int .i64 a1), (2, .op 0 0 0), (5, .int .i64 x2)] ∧ τ = [.cells 0 (encGMessage a0)] ∧ a0.fReserved = p4 ++ q4 ∧ x2 = (qb p4 : Int) ∧ yr.l4 a1 q4 x2 = r) _ ⟨[], a0.fReserved, 0, rfl, rfl, rfl, rfl, rfl, h⟩ .s ?_;rintro m L τ ⟨p4, q4, x2, rfl, rfl, rfl, hE4, hi4, h⟩
 rcases q4 with _ | ⟨y4, q4⟩
 · have hz4 := yq hE4 hi4;simp only [yr.l4] at h
   refine za fun Z5 hZ5 => ?_
   refine rg tok [1, 2, 5, 10] fun K hK => ?_
   simp only [go_sem, qc, qa, qd, hz4];apply hK
   refine zo rfl ?_;apply zy;apply hZ1;refine rgN [4] ?_;cases h;exact rtA
 obtain ⟨hz4, hw4, hx4, hE'4, hi'4⟩ := zX hE4 hi4 hb4;simp only [yr.l4] at h
 refine za fun Z6 hZ6 => ?_
 refine rg tok [1, 2, 5, 10] fun K hK => ?_
 simp only [go_sem, qc, qa, qd, hz4];apply hK
 refine zq rfl ?_;apply zd;apply hZ6
 refine za fun Z7 hZ7 => ?_
 apply ze;have f8 := E45.idxS hx4;have f9 := E45.fldS0 (f := 3) rfl rfl hx4
 refine rg tok [1, 2, 5, 19] fun K hK => ?_
 simp only [go_sem, qc, qa, qd, encI, f8, f9];apply hK
 refine zw rfl (fun hc10 => ?_) (fun hc10 => ?_)
 · rw [if_pos hc10] at h;have t11 := eq_true hc10
   refine rg tok [4] fun K hK => ?_
   simp only [go_sem, qc, qa, t11];apply hK
   cases h;exact rtA
 rw [if_neg hc10] at h;have t12 := eq_false hc10;apply zd;apply hZ7
 refine rgE tok [1, 2, 5] fun K hK => ?_
 simp only [go_sem, qc, qa, hw4, t12];apply hK
 exact ⟨_, _, _, qs q4.length, ⟨p4 ++ [y4], q4, x2 + 1, rfl, rfl, rfl, hE'4, hi'4, h⟩, .s⟩
theorem yr.ev (a0 : GMessage) (a1 : Int) (r : Bool) (h : yr a0 a1 = r) (σ : Store) : ACalls qh 121 [.agg (encGMessage a0), .int .i64 a1] σ (fun r' σ' => r' = .bool r ∧ σ' = σ) :=
 (yr.ok a0 a1 r h).c σ
def yO.l4 (a1 : Int) : List GField → Int → GField × Bool
 | [], x2 => ((⟨[], 0, 0, (⟨0, []⟩ : GType)⟩ : GField), false)
 | y4 :: q4, x2 => (if y4.fTag = a1 then (y4, true) else ((yO.l4 a1 q4) (x2 + 1)))
def yO (a0 : GMessage) (a1 : Int) : GField × Bool :=
 (yO.l4 a1 a0.fFields 0)
theorem yO.ok (a0 : GMessage) (a1 : Int) (r : GField × Bool) (h : yO a0 a1 = r) : ACalls qh 73 [.agg (encGMessage a0), .int .i64 a1] [] (fun r' _ => r' = .tup [.agg (encGField r.1), .bool r.2]) := by
 refine zf (rs := [.cell 4 57, .tmp 5]) tok Tryz.func73 rfl Tryz.ntmps73 rfl Tryz.call73 (by simp) ?_;refine zl [(0, .agg (encGMessage a0)), (1, .int .i64 a1)] ⟨rfl, rfl, trivial⟩ ?_;unfold yO at h
 refine rg tok [1, 2, 4] fun K hK => ?_
 simp only [go_sem, qc, qa, qd, reduceCtorEq, encGMessage];apply hK
 refine za fun Z1 hZ1 => ?_
 refine rgN [1, 2, 4, 6] ?_;apply ze
 refine xA 0 rfl fun hb4 => ?_
 replace hb4 : qb a0.fFields ≤ 9223372036854775807 := hb4.2.1.1;refine zr (fun m L τ => ∃ (p4 q4 : List GField) (x2 : Int), m = qb q4 ∧ L = [(1, .int .i64 a1), (2, .op 0 0 0), (4, .op 1 0 0), (6, .int .i64 x2)] ∧ τ = [.cells 0 (encGMessage a0), .cells 0 [.str [], .int .i64 0, .int .i64 0, .int .i64 0, .str []]] ∧ a0.fFields = p4 ++ q4 ∧ x2 = (qb p4 : Int) ∧ yO.l4 a1 q4 x2 = r) _ ⟨[], a0.fFields, 0, rfl, rfl, rfl, rfl, rfl, h⟩ .s ?_;rintro m L τ ⟨p4, q4, x2, rfl, rfl, rfl, hE4, hi4, h⟩
 rcases q4 with _ | ⟨y4, q4⟩
 · have hz4 := yq hE4 hi4;simp only [yO.l4] at h
   refine za fun Z5 hZ5 => ?_
   refine rg tok [1, 2, 4, 6, 11] fun K hK => ?_
   simp only [go_sem, qc, qa, qd, hz4];apply hK
   refine zo rfl ?_;apply zy;apply hZ1;refine rgN [4, 5] ?_;cases h;exact rtA
 obtain ⟨hz4, hw4, hx4, hE'4, hi'4⟩ := zX hE4 hi4 hb4;simp only [yO.l4] at h
 refine za fun Z6 hZ6 => ?_
 refine rg tok [1, 2, 4, 6, 11] fun K hK => ?_
 simp only [go_sem, qc, qa, qd, hz4];apply hK
 refine zq rfl ?_;apply zd;apply hZ6
 refine za fun Z7 hZ7 => ?_
 apply ze;have f8 := E47.idxS hx4;have f9 := E47.fldS (f := 3) rfl rfl hx4 (o := 1) (by decide)
 refine rg tok [1, 2, 4, 6, 21] fun K hK => ?_
 simp only [go_sem, qc, qa, qd, encGField, f8, f9];apply hK
 refine zw rfl (fun hc10 => ?_) (fun hc10 => ?_)
 · rw [if_pos hc10] at h;have t11 := eq_true hc10;have f12 := E47.idxS hx4;have f13 := E47.loadS rfl rfl hx4
   refine rg tok [4, 5] fun K hK => ?_
   simp only [go_sem, qc, qf, qa, qd, encGField, t11, f12, f13];apply hK
   cases h;exact rtA
 rw [if_neg hc10] at h;have t14 := eq_false hc10;apply zd;apply hZ7
 refine rgE tok [1, 2, 4, 6] fun K hK => ?_
 simp only [go_sem, qc, qa, hw4, t14];apply hK
 exact ⟨_, _, _, qs q4.length, ⟨p4 ++ [y4], q4, x2 + 1, rfl, rfl, rfl, hE'4, hi'4, h⟩, .s⟩
theorem yO.ev (a0 : GMessage) (a1 : Int) (r : GField × Bool) (h : yO a0 a1 = r) (σ : Store) : ACalls qh 73 [.agg (encGMessage a0), .int .i64 a1] σ (fun r' σ' => r' = .tup [.agg (encGField r.1), .bool r.2] ∧ σ' = σ) :=
 (yO.ok a0 a1 r h).c σ
def xL.l4 (a1 : List UInt8) : List GEnumeration → Int → GEnumeration × Bool
 | [], x2 => ((⟨[], ([] : List GNamed)⟩ : GEnumeration), false)
 | y4 :: q4, x2 => (if y4.fName = a1 then (y4, true) else ((xL.l4 a1 q4) (x2 + 1)))
def xL (a0 : GSchema) (a1 : List UInt8) : GEnumeration × Bool :=
 (xL.l4 a1 a0.fEnums 0)
theorem xL.ok (a0 : GSchema) (a1 : List UInt8) (r : GEnumeration × Bool) (h : xL a0 a1 = r) : ACalls qh 147 [.agg (encGSchema a0), .str a1] [] (fun r' _ => r' = .tup [.agg (encGEnumeration r.1), .bool r.2]) := by
 refine zf (rs := [.cell 4 84, .tmp 5]) tok Tryz.func147 rfl Tryz.ntmps147 rfl Tryz.call147 (by simp) ?_;refine zl [(0, .agg (encGSchema a0)), (1, .str a1)] ⟨rfl, rfl, trivial⟩ ?_;unfold xL at h
 refine rg tok [1, 2, 4] fun K hK => ?_
 simp only [go_sem, qc, qa, qd, reduceCtorEq, encGSchema];apply hK
 refine za fun Z1 hZ1 => ?_
 refine rgN [1, 2, 4, 6] ?_;apply ze
 refine xA 0 rfl fun hb4 => ?_
 replace hb4 : qb a0.fEnums ≤ 9223372036854775807 := hb4.2.2.1.1;refine zr (fun m L τ => ∃ (p4 q4 : List GEnumeration) (x2 : Int), m = qb q4 ∧ L = [(1, .str a1), (2, .op 0 0 0), (4, .op 1 0 0), (6, .int .i64 x2)] ∧ τ = [.cells 0 (encGSchema a0), .cells 0 [.str [], .ds true [] 0 true]] ∧ a0.fEnums = p4 ++ q4 ∧ x2 = (qb p4 : Int) ∧ xL.l4 a1 q4 x2 = r) _ ⟨[], a0.fEnums, 0, rfl, rfl, rfl, rfl, rfl, h⟩ .s ?_;rintro m L τ ⟨p4, q4, x2, rfl, rfl, rfl, hE4, hi4, h⟩
 rcases q4 with _ | ⟨y4, q4⟩
 · have hz4 := yq hE4 hi4;simp only [xL.l4] at h
   refine za fun Z5 hZ5 => ?_
   refine rg tok [1, 2, 4, 6, 11] fun K hK => ?_
   simp only [go_sem, qc, qa, qd, hz4];apply hK
   refine zo rfl ?_;apply zy;apply hZ1;refine rgN [4, 5] ?_;cases h;exact rtA
 obtain ⟨hz4, hw4, hx4, hE'4, hi'4⟩ := zX hE4 hi4 hb4;simp only [xL.l4] at h
 refine za fun Z6 hZ6 => ?_
 refine rg tok [1, 2, 4, 6, 11] fun K hK => ?_
 simp only [go_sem, qc, qa, qd, hz4];apply hK
 refine zq rfl ?_;apply zd;apply hZ6
 refine za fun Z7 hZ7 => ?_
 apply ze;have f8 := E23.idxS hx4;have f9 := E23.fldS0 (f := 9) rfl rfl hx4
 refine rg tok [1, 2, 4, 6, 21] fun K hK => ?_
 simp only [go_sem, qc, qa, qd, encGEnumeration, f8, f9];apply hK
 refine zw rfl (fun hc10 => ?_) (fun hc10 => ?_)
 · rw [if_pos hc10] at h;have t11 := eq_true hc10;have f12 := E23.idxS hx4;have f13 := E23.loadS rfl rfl hx4
   refine rg tok [4, 5] fun K hK => ?_
   simp only [go_sem, qc, qf, qa, qd, encGEnumeration, t11, f12, f13];apply hK
   cases h;exact rtA
 rw [if_neg hc10] at h;have t14 := eq_false hc10;apply zd;apply hZ7
 refine rgE tok [1, 2, 4, 6] fun K hK => ?_
 simp only [go_sem, qc, qa, hw4, t14];apply hK
 exact ⟨_, _, _, qs q4.length, ⟨p4 ++ [y4], q4, x2 + 1, rfl, rfl, rfl, hE'4, hi'4, h⟩, .s⟩
theorem xL.ev (a0 : GSchema) (a1 : List UInt8) (r : GEnumeration × Bool) (h : xL a0 a1 = r) (σ : Store) : ACalls qh 147 [.agg (encGSchema a0), .str a1] σ (fun r' σ' => r' = .tup [.agg (encGEnumeration r.1), .bool r.2] ∧ σ' = σ) :=
 (xL.ok a0 a1 r h).c σ
def yh.l4 (a1 : List UInt8) : List GMessage → Int → GMessage × Bool
 | [], x2 => ((⟨[], ([] : List GField), ([] : List Int)⟩ : GMessage), false)
 | y4 :: q4, x2 => (if y4.fName = a1 then (y4, true) else ((yh.l4 a1 q4) (x2 + 1)))
def yh (a0 : GSchema) (a1 : List UInt8) : GMessage × Bool :=
 (yh.l4 a1 a0.fMessages 0)
theorem yh.ok (a0 : GSchema) (a1 : List UInt8) (r : GMessage × Bool) (h : yh a0 a1 = r) : ACalls qh 43 [.agg (encGSchema a0), .str a1] [] (fun r' _ => r' = .tup [.agg (encGMessage r.1), .bool r.2]) := by
 refine zf (rs := [.cell 4 49, .tmp 5]) tok Tryz.func43 rfl Tryz.ntmps43 rfl Tryz.call43 (by simp) ?_;refine zl [(0, .agg (encGSchema a0)), (1, .str a1)] ⟨rfl, rfl, trivial⟩ ?_;unfold yh at h
 refine rg tok [1, 2, 4] fun K hK => ?_
 simp only [go_sem, qc, qa, qd, reduceCtorEq, encGSchema];apply hK
 refine za fun Z1 hZ1 => ?_
 refine rgN [1, 2, 4, 6] ?_;apply ze
 refine xA 0 rfl fun hb4 => ?_
 replace hb4 : qb a0.fMessages ≤ 9223372036854775807 := hb4.2.1.1;refine zr (fun m L τ => ∃ (p4 q4 : List GMessage) (x2 : Int), m = qb q4 ∧ L = [(1, .str a1), (2, .op 0 0 0), (4, .op 1 0 0), (6, .int .i64 x2)] ∧ τ = [.cells 0 (encGSchema a0), .cells 0 [.str [], .ds true [] 0 true, .ds true [] 0 true]] ∧ a0.fMessages = p4 ++ q4 ∧ x2 = (qb p4 : Int) ∧ yh.l4 a1 q4 x2 = r) _ ⟨[], a0.fMessages, 0, rfl, rfl, rfl, rfl, rfl, h⟩ .s ?_;rintro m L τ ⟨p4, q4, x2, rfl, rfl, rfl, hE4, hi4, h⟩
 rcases q4 with _ | ⟨y4, q4⟩
 · have hz4 := yq hE4 hi4;simp only [yh.l4] at h
   refine za fun Z5 hZ5 => ?_
   refine rg tok [1, 2, 4, 6, 11] fun K hK => ?_
   simp only [go_sem, qc, qa, qd, hz4];apply hK
   refine zo rfl ?_;apply zy;apply hZ1;refine rgN [4, 5] ?_;cases h;exact rtA
 obtain ⟨hz4, hw4, hx4, hE'4, hi'4⟩ := zX hE4 hi4 hb4;simp only [yh.l4] at h
 refine za fun Z6 hZ6 => ?_
 refine rg tok [1, 2, 4, 6, 11] fun K hK => ?_
 simp only [go_sem, qc, qa, qd, hz4];apply hK
 refine zq rfl ?_;apply zd;apply hZ6
 refine za fun Z7 hZ7 => ?_
 apply ze;have f8 := E22.idxS hx4;have f9 := E22.fldS0 (f := 9) rfl rfl hx4
 refine rg tok [1, 2, 4, 6, 21] fun K hK => ?_
 simp only [go_sem, qc, qa, qd, encGMessage, f8, f9];apply hK
 refine zw rfl (fun hc10 => ?_) (fun hc10 => ?_)
 · rw [if_pos hc10] at h;have t11 := eq_true hc10;have f12 := E22.idxS hx4;have f13 := E22.loadS rfl rfl hx4
   refine rg tok [4, 5] fun K hK => ?_
   simp only [go_sem, qc, qf, qa, qd, encGMessage, t11, f12, f13];apply hK
   cases h;exact rtA
 rw [if_neg hc10] at h;have t14 := eq_false hc10;apply zd;apply hZ7
 refine rgE tok [1, 2, 4, 6] fun K hK => ?_
 simp only [go_sem, qc, qa, hw4, t14];apply hK
 exact ⟨_, _, _, qs q4.length, ⟨p4 ++ [y4], q4, x2 + 1, rfl, rfl, rfl, hE'4, hi'4, h⟩, .s⟩
end
section
set_option maxRecDepth 4000
set_option maxHeartbeats 1000000
open AM
theorem yh.ev (a0 : GSchema) (a1 : List UInt8) (r : GMessage × Bool) (h : yh a0 a1 = r) (σ : Store) : ACalls qh 43 [.agg (encGSchema a0), .str a1] σ (fun r' σ' => r' = .tup [.agg (encGMessage r.1), .bool r.2] ∧ σ' = σ) :=
 (yh.ok a0 a1 r h).c σ
def yW.j3 (a0 : GSchema) (a1 : GType) (x2 : Bool) : Bool :=
 (if x2 = true then decide (a1.fName = []) else (if a1.fKind = 6 then bnd (xL a0 a1.fName) fun r7 => r7.2 else (if a1.fKind = 7 then bnd (yh a0 a1.fName) fun r11 => r11.2 else false)))
def yW (a0 : GSchema) (a1 : GType) : Bool :=
 (if a1.fKind = 1 then (yW.j3 a0 a1 (decide (a1.fKind = 1))) else (if a1.fKind = 2 then (yW.j3 a0 a1 (decide (a1.fKind = 2))) else (if a1.fKind = 3 then (yW.j3 a0 a1 (decide (a1.fKind = 3))) else (if a1.fKind = 4 then (yW.j3 a0 a1 (decide (a1.fKind = 4))) else (yW.j3 a0 a1 (decide (a1.fKind = 5)))))))
theorem yW.ok (a0 : GSchema) (a1 : GType) (r : Bool) (h : yW a0 a1 = r) : ACalls qh 122 [.agg (encGSchema a0), .agg (encGType a1)] [] (fun r' _ => r' = .bool r) := by
 refine zf (rs := [.tmp 4]) tok Tryz.func122 rfl Tryz.ntmps122 rfl Tryz.call122 (by simp) ?_;refine zl [(0, .agg (encGSchema a0)), (1, .agg (encGType a1))] ⟨rfl, rfl, trivial⟩ ?_;unfold yW at h
 refine rg tok [2, 3] fun K hK => ?_
 simp only [go_sem, qc, qa, qd, reduceCtorEq, encGSchema, encGType];apply hK
 refine za fun Z1 hZ1 => ?_
 refine rgN [2, 3, 10] ?_;apply ze;refine xr (fun L τ => ∃ (x2 : Bool), L = [(2, .op 0 0 0), (3, .op 1 0 0), (10, .int .i64 a1.fKind), (11, .bool x2)] ∧ τ = [.cells 0 (encGSchema a0), .cells 0 [.int .i64 a1.fKind, .str a1.fName]] ∧ yW.j3 a0 a1 x2 = r) ?_ ?_
 · refine rgN [2, 3, 10, 11] ?_;refine zw rfl (fun hc13 => ?_) (fun hc13 => ?_)
   · rw [if_pos hc13] at h;have t14 := eq_true hc13;apply zd;exact ⟨_, _, ⟨decide (a1.fKind = 1), rfl, rfl, h⟩, .s⟩
   rw [if_neg hc13] at h;have t15 := eq_false hc13
   refine rg tok [2, 3, 10, 11] fun K hK => ?_
   simp only [go_sem, qc, qa, t15];apply hK
   refine zw rfl (fun hc16 => ?_) (fun hc16 => ?_)
   · rw [if_pos hc16] at h;have t17 := eq_true hc16;apply zd;exact ⟨_, _, ⟨decide (a1.fKind = 2), rfl, rfl, h⟩, .s⟩
   rw [if_neg hc16] at h;have t18 := eq_false hc16
   refine rg tok [2, 3, 10, 11] fun K hK => ?_
   simp only [go_sem, qc, qa, t18];apply hK
   refine zw rfl (fun hc19 => ?_) (fun hc19 => ?_)
   · rw [if_pos hc19] at h;have t20 := eq_true hc19;apply zd;exact ⟨_, _, ⟨decide (a1.fKind = 3), rfl, rfl, h⟩, .s⟩
   rw [if_neg hc19] at h;have t21 := eq_false hc19
   refine rg tok [2, 3, 10, 11] fun K hK => ?_
   simp only [go_sem, qc, qa, t21];apply hK
   refine zw rfl (fun hc22 => ?_) (fun hc22 => ?_)
   · rw [if_pos hc22] at h;have t23 := eq_true hc22;apply zd;exact ⟨_, _, ⟨decide (a1.fKind = 4), rfl, rfl, h⟩, .s⟩
   rw [if_neg hc22] at h;have t24 := eq_false hc22
   refine rgE tok [2, 3, 10, 11] fun K hK => ?_
   simp only [go_sem, qc, qa, t24];apply hK
   exact ⟨_, _, ⟨decide (a1.fKind = 5), rfl, rfl, h⟩, .s⟩
 rintro _ _ ⟨x2, rfl, rfl, h⟩;unfold yW.j3 at h;refine zn (b := x2) rfl (fun hc4 => ?_) (fun hc4 => ?_)
 · rw [if_pos hc4] at h;refine rgN [4] ?_;cases h;exact rtA
 rw [xP hc4] at h;refine rgN [2, 3, 10, 20] ?_;refine zw rfl (fun hc5 => ?_) (fun hc5 => ?_)
 · rw [if_pos hc5] at h;have t6 := eq_true hc5
   refine rc [6] fun K hK => ?_
   obtain ⟨r7, hr7, h⟩ := zS h;refine zj tok 3 ?_;simp only [go_sem, qc, qf, qa, qd, t6];refine clN rfl rfl rfl (xL.ev a0 a1.fName r7 hr7 _) ?_;refine zj tok 6 ?_;simp only [go_sem, qc, qf, qa, qd, encGEnumeration];refine nkN hK ?_;refine rgN [4] ?_;cases h;exact rtA
 rw [if_neg hc5] at h;have t8 := eq_false hc5
 refine rg tok [2, 3, 30] fun K hK => ?_
 simp only [go_sem, qc, qa, t8];apply hK
 refine zw rfl (fun hc9 => ?_) (fun hc9 => ?_)
 · rw [if_pos hc9] at h;have t10 := eq_true hc9
   refine rc [8] fun K hK => ?_
   obtain ⟨r11, hr11, h⟩ := zS h;refine zj tok 3 ?_;simp only [go_sem, qc, qf, qa, qd, t10];refine clN rfl rfl rfl (yh.ev a0 a1.fName r11 hr11 _) ?_;refine zj tok 6 ?_;simp only [go_sem, qc, qf, qa, qd, encGMessage];refine nkN hK ?_;refine rgN [4] ?_;cases h;exact rtA
 rw [if_neg hc9] at h;have t12 := eq_false hc9;apply zd;apply hZ1
 refine rg tok [4] fun K hK => ?_
 simp only [go_sem, qc, qa, t12];apply hK
 cases h;exact rtA
theorem yW.ev (a0 : GSchema) (a1 : GType) (r : Bool) (h : yW a0 a1 = r) (σ : Store) : ACalls qh 122 [.agg (encGSchema a0), .agg (encGType a1)] σ (fun r' σ' => r' = .bool r ∧ σ' = σ) :=
 (yW.ok a0 a1 r h).c σ
def zF.l17 (a0 : GSchema) (a1 : GMessage) : List GField → Int → List (List UInt8) → Option Int
 | [], x13, l11 => some 0
 | y17 :: q17, x13, l11 => (yo y17.fName l11).bind fun r24 => (if (!r24) = true then some 6 else (Yf (qb l11 + 1) 16).bind fun _u26 => (grd ((0 : Int) ≤ 0 ∧ 0 ≤ x13 ∧ x13 ≤ (qb a1.fFields : Int))).bind fun _u29 => bnd (yO (⟨[], YS a1.fFields 0 x13, ([] : List Int)⟩ : GMessage) y17.fTag) fun r31 => bnd (if ((r31.2 || (decide (y17.fTag < 1))) || (decide (500 < y17.fTag))) = true then true else bnd (yr a1 y17.fTag) fun r32 => r32) fun c32 => (if c32 = true then some 7 else bnd (if ((decide (y17.fLabel < 1)) || (decide (3 < y17.fLabel))) = true then true else bnd (yW a0 y17.fType) fun r37 => !r37) fun c37 => (if c37 = true then some 8 else ((zF.l17 a0 a1 q17) (x13 + 1) (l11 ++ [y17.fName])))))
def zF.j43 (x6 : Int) (rec8 : Int → Option Int) (x42 : Bool) : Option Int :=
 (if x42 = true then some 7 else (rec8 (x6 + 1)))
def zF.l8 (a0 : GSchema) (a1 : GMessage) : List Int → Int → Option Int
 | [], x6 => (zF.l17 a0 a1 a1.fFields 0 ([] : List (List UInt8)))
 | y8 :: q8, x6 => (if y8 < 1 then (zF.j43 x6 (zF.l8 a0 a1 q8) true) else (if 500 < y8 then (zF.j43 x6 (zF.l8 a0 a1 q8) true) else (grd ((0 : Int) ≤ 0 ∧ 0 ≤ x6 ∧ x6 ≤ (qb a1.fReserved : Int))).bind fun _u53 => bnd (yr (⟨[], ([] : List GField), YS a1.fReserved 0 x6⟩ : GMessage) y8) fun r57 => (zF.j43 x6 (zF.l8 a0 a1 q8) r57)))
def zF (a0 : GSchema) (a1 : GMessage) : Option Int :=
 (if ((decide (16 < (qb a1.fFields : Int))) || (decide (32 < (qb a1.fReserved : Int)))) = true then some 4 else (zF.l8 a0 a1 a1.fReserved 0))
theorem zF.ok (a0 : GSchema) (a1 : GMessage) (r : Int) (h : zF a0 a1 = some r) : ACalls qh 82 [.agg (encGSchema a0), .agg (encGMessage a1)] [] (fun r' _ => r' = .int .i64 r) := by
 refine zf (rs := [.tmp 4]) tok Tryz.func82 rfl Tryz.ntmps82 rfl Tryz.call82 (by simp) ?_;refine zl [(0, .agg (encGSchema a0)), (1, .agg (encGMessage a1))] ⟨rfl, rfl, trivial⟩ ?_;unfold zF at h
 refine rg tok [2, 3] fun K hK => ?_
 simp only [go_sem, qc, qa, qd, reduceCtorEq, encGMessage, encGSchema];apply hK
 refine za fun Z1 hZ1 => ?_
 refine rc [2, 3, 20] fun K hK => ?_
 refine rnN 5 ?_;refine zh 5 (fun L τ => L = [(2, .op 0 0 0), (3, .op 1 0 0), (20, .bool ((decide (16 < (qb a1.fFields : Int))) || (decide (32 < (qb a1.fReserved : Int)))))] ∧ τ = [.cells 0 (encGSchema a0), .cells 0 (encGMessage a1)]) ?_ ?_
 · refine yF 15 rfl (fun hg15 => ?_) (fun hg15 => ?_)
   · have t2 := eq_true hg15;refine rnN 5 ?_;refine zb ⟨rfl, _, _, ⟨rfl, rfl⟩, .p t2⟩
   have t3 := eq_false hg15;refine rnN 5 ?_;refine zb ⟨rfl, _, _, ⟨rfl, rfl⟩, .p t3⟩
 rintro _ _ ⟨rfl, rfl⟩;refine nkN hK ?_;refine zn (b := ((decide (16 < (qb a1.fFields : Int))) || (decide (32 < (qb a1.fReserved : Int))))) rfl (fun hc4 => ?_) (fun hc4 => ?_)
 · rw [if_pos hc4] at h;refine rgN [4] ?_;cases h;exact rtA
 rw [xP hc4] at h;apply zd;apply hZ1
 refine za fun Z5 hZ5 => ?_
 refine rgN [2, 3, 5] ?_;apply ze
 refine xA 1 rfl fun hb8 => ?_
 replace hb8 : qb a1.fReserved ≤ 9223372036854775807 := hb8.2.2.1.1;refine zr (fun m L τ => ∃ (p8 q8 : List Int) (x6 : Int), m = qb q8 ∧ L = [(2, .op 0 0 0), (3, .op 1 0 0), (5, .int .i64 x6)] ∧ τ = [.cells 0 (encGSchema a0), .cells 0 (encGMessage a1)] ∧ a1.fReserved = p8 ++ q8 ∧ x6 = (qb p8 : Int) ∧ zF.l8 a0 a1 q8 x6 = some r) _ ⟨[], a1.fReserved, 0, rfl, rfl, rfl, rfl, rfl, h⟩ .s ?_;rintro m L τ ⟨p8, q8, x6, rfl, rfl, rfl, hE8, hi8, h⟩
 rcases q8 with _ | ⟨y8, q8⟩
 · have hz8 := yq hE8 hi8;simp only [zF.l8] at h
   refine za fun Z9 hZ9 => ?_
   refine rg tok [2, 3, 5, 25] fun K hK => ?_
   simp only [go_sem, qc, qa, qd, hz8];apply hK
   refine zo rfl ?_;apply zy;apply hZ5;refine rgN [2, 3, 6] ?_;refine wN 6 1 rfl ?_;refine zV (L := [(2, .op 0 0 0), (3, .op 1 0 0), (6, .os true 1 2 0 0 (qb ([] : List (List UInt8))) false)]) (τ := [.cells 0 (encGSchema a0), .cells 0 (encGMessage a1), .cells 0 (qe encS ([] : List (List UInt8)))]) .s ?_
   refine za fun Z10 hZ10 => ?_
   refine rgN [2, 3, 6, 7] ?_;apply ze
   refine xA 1 rfl fun hb17 => ?_
   replace hb17 : qb a1.fFields ≤ 9223372036854775807 := hb17.2.1.1;refine zr (fun m L τ => ∃ (p17 q17 : List GField) (x13 : Int) (l11 : List (List UInt8)) (v12 : Nat), m = qb q17 ∧ L = [(2, .op 0 0 0), (3, .op 1 0 0), (6, .os true 1 2 v12 0 (qb l11) false), (7, .int .i64 x13)] ∧ τ = [.cells 0 (encGSchema a0), .cells 0 (encGMessage a1), .cells v12 (qe encS l11)] ∧ a1.fFields = p17 ++ q17 ∧ x13 = (qb p17 : Int) ∧ zF.l17 a0 a1 q17 x13 l11 = some r) _ ⟨[], a1.fFields, 0, ([] : List (List UInt8)), 0, rfl, rfl, rfl, rfl, rfl, h⟩ .s ?_;rintro m L τ ⟨p17, q17, x13, l11, v12, rfl, rfl, rfl, hE17, hi17, h⟩
   rcases q17 with _ | ⟨y17, q17⟩
   · have hz17 := yq hE17 hi17;simp only [zF.l17] at h
     refine za fun Z18 hZ18 => ?_
     refine rg tok [2, 3, 6, 7, 59] fun K hK => ?_
     simp only [go_sem, qc, qa, qd, hz17];apply hK
     refine zo rfl ?_;apply zy;apply hZ10;refine rgN [4] ?_;cases h;exact rtA
   obtain ⟨hz17, hw17, hx17, hE'17, hi'17⟩ := zX hE17 hi17 hb17;simp only [zF.l17] at h
   refine za fun Z19 hZ19 => ?_
   refine rg tok [2, 3, 6, 7, 59] fun K hK => ?_
   simp only [go_sem, qc, qa, qd, hz17];apply hK
   refine zq rfl ?_;apply zd;apply hZ19
   refine za fun Z20 hZ20 => ?_
   apply ze;have f21 := E47.idxS hx17;have f22 := E47.loadS rfl rfl hx17
   refine rg tok [2, 3, 6, 7, 8] fun K hK => ?_
   simp only [go_sem, qc, qf, qa, qd, encGField, f21, f22];apply hK
   refine za fun Z23 hZ23 => ?_
   refine rc [2, 3, 6, 7, 8, 71] fun K hK => ?_
   obtain ⟨r24, hr24, h⟩ := bind_some h;refine rnN 3 ?_;refine clN rfl rfl rfl (yo.ok y17.fName l11 r24 hr24).ld ?_;refine rnN 1 ?_;refine nkN hK ?_;refine zn (b := (!r24)) rfl (fun hc25 => ?_) (fun hc25 => ?_)
   · rw [if_pos hc25] at h;refine rgN [4] ?_;cases h;exact rtA
   rw [xP hc25] at h;apply zd;apply hZ23;obtain ⟨_u26, hu26, h⟩ := bind_some h;have gu26 := yi hu26;have f27 := (zv E98.len l11)
   refine rg tok [2, 3, 6, 7, 8] fun K hK => ?_
   simp only [go_sem, qc, qf, qa, qd, qt, zN, z6, q9, qY, true_and, ue, z8, zO, yj, gu26, f27, yB, ua, qW, AV.one, qU, qA, qj, ql, qn, qE];apply hK
   refine zV (L := [(2, .op 0 0 0), (3, .op 1 0 0), (6, .os true 1 2 (v12 + 1) 0 (qb (l11 ++ [y17.fName])) false), (7, .int .i64 x13), (8, .op 3 0 0)]) (τ := [.cells 0 (encGSchema a0), .cells 0 (encGMessage a1), .cells (v12 + 1) (qe encS (l11 ++ [y17.fName])), .cells 0 (encGField y17), .cells 0 [.str y17.fName]]) .s ?_
   refine za fun Z28 hZ28 => ?_
   obtain ⟨_u29, hu29, h⟩ := bind_some h;have gu29 := wy hu29;have f30 := E47.sl_hi gu29;obtain ⟨r31, hr31, h⟩ := zS h
   refine rd [2, 3, 6, 7, 8, 10] fun K hK => ?_
   refine DW.start (T := tab) [.any, .at [], .any, .any, .any, .any, .at [], .eff, .any, .any, .any, .flt, .eff, .any] [] ?_;refine DW.runN tok 7 ?_;simp only [go_sem, qc, qf, qa, qd, f30];refine DW.call rfl rfl rfl (ACalls.loose (yO.ev (⟨[], YS a1.fFields 0 x13, ([] : List Int)⟩ : GMessage) y17.fTag r31 hr31 _)) ?_;refine DW.runN tok 6 ?_;simp only [go_sem, qc, qf, qa, qd, encGField];refine DW.fin tok (by decide +kernel) rfl ?_;simp only [zp, upd, qa, reduceIte, yP, xG];apply hK
   refine rc [2, 3, 6, 7, 8, 104] fun K hK => ?_
   refine rnN 2 ?_;refine zh 4 (fun L τ => L = [(2, .op 0 0 0), (3, .op 1 0 0), (6, .os true 1 2 (v12 + 1) 0 (qb (l11 ++ [y17.fName])) false), (7, .int .i64 x13), (8, .op 3 0 0), (93, .bool (r31.2 || (decide (y17.fTag < 1))))] ∧ τ = [.cells 0 (encGSchema a0), .cells 0 (encGMessage a1), .cells (v12 + 1) (qe encS (l11 ++ [y17.fName])), .cells 0 (encGField y17), .cells 0 [.str y17.fName], .cells 0 (encGField r31.1)]) ?_ ?_
   · refine zI (b := r31.2) 89 rfl (fun hg89 => ?_) (fun hg89 => ?_)
     · refine rnN 4 ?_;refine zb ⟨rfl, _, _, ⟨rfl, rfl⟩, .b hg89⟩
     refine rnN 4 ?_;refine zb ⟨rfl, _, _, ⟨rfl, rfl⟩, .b hg89⟩
   rintro _ _ ⟨rfl, rfl⟩;refine rnN 1 ?_;refine zh 4 (fun L τ => L = [(2, .op 0 0 0), (3, .op 1 0 0), (6, .os true 1 2 (v12 + 1) 0 (qb (l11 ++ [y17.fName])) false), (7, .int .i64 x13), (8, .op 3 0 0), (98, .bool ((r31.2 || (decide (y17.fTag < 1))) || (decide (500 < y17.fTag))))] ∧ τ = [.cells 0 (encGSchema a0), .cells 0 (encGMessage a1), .cells (v12 + 1) (qe encS (l11 ++ [y17.fName])), .cells 0 (encGField y17), .cells 0 [.str y17.fName], .cells 0 (encGField r31.1)]) ?_ ?_
   · refine zI (b := (r31.2 || (decide (y17.fTag < 1)))) 94 rfl (fun hg94 => ?_) (fun hg94 => ?_)
     · refine rnN 4 ?_;refine zb ⟨rfl, _, _, ⟨rfl, rfl⟩, .b hg94⟩
     refine rnN 4 ?_;refine zb ⟨rfl, _, _, ⟨rfl, rfl⟩, .b hg94⟩
   rintro _ _ ⟨rfl, rfl⟩;refine rnN 1 ?_;obtain ⟨c32, hc32, h⟩ := zS h;refine zh 5 (fun L τ => L = [(2, .op 0 0 0), (3, .op 1 0 0), (6, .os true 1 2 (v12 + 1) 0 (qb (l11 ++ [y17.fName])) false), (7, .int .i64 x13), (8, .op 3 0 0), (104, .bool c32)] ∧ τ = [.cells 0 (encGSchema a0), .cells 0 (encGMessage a1), .cells (v12 + 1) (qe encS (l11 ++ [y17.fName])), .cells 0 (encGField y17), .cells 0 [.str y17.fName], .cells 0 (encGField r31.1)]) ?_ ?_
   · refine zI (b := ((r31.2 || (decide (y17.fTag < 1))) || (decide (500 < y17.fTag)))) 99 rfl (fun hg99 => ?_) (fun hg99 => ?_)
     · rw [if_pos hg99] at hc32;refine rnN 5 ?_;subst hc32;refine zb ⟨rfl, _, _, ⟨rfl, rfl⟩, .b hg99⟩
     rw [xP hg99] at hc32;obtain ⟨r33, hr33, hc32⟩ := zS hc32;refine rnN 3 ?_;refine clN rfl rfl rfl (yr.ev a1 y17.fTag r33 hr33 _) ?_;refine rnN 1 ?_;subst hc32;refine zb ⟨rfl, _, _, ⟨rfl, rfl⟩, .b hg99⟩
   rintro _ _ ⟨rfl, rfl⟩;refine nkN hK ?_;refine zn (b := c32) rfl (fun hc34 => ?_) (fun hc34 => ?_)
   · rw [if_pos hc34] at h;refine rgN [4] ?_;cases h;exact rtA
   rw [xP hc34] at h;apply zd;apply hZ28
   refine rc [2, 3, 6, 7, 119] fun K hK => ?_
   refine rnN 4 ?_;refine zh 4 (fun L τ => L = [(2, .op 0 0 0), (3, .op 1 0 0), (6, .os true 1 2 (v12 + 1) 0 (qb (l11 ++ [y17.fName])) false), (7, .int .i64 x13), (8, .op 3 0 0), (112, .bool ((decide (y17.fLabel < 1)) || (decide (3 < y17.fLabel))))] ∧ τ = [.cells 0 (encGSchema a0), .cells 0 (encGMessage a1), .cells (v12 + 1) (qe encS (l11 ++ [y17.fName])), .cells 0 (encGField y17), .cells 0 [.str y17.fName], .cells 0 (encGField r31.1)]) ?_ ?_
   · refine yF 108 rfl (fun hg108 => ?_) (fun hg108 => ?_)
     · have t35 := eq_true hg108;refine rnN 4 ?_;refine zb ⟨rfl, _, _, ⟨rfl, rfl⟩, .p t35⟩
     have t36 := eq_false hg108;refine rnN 4 ?_;refine zb ⟨rfl, _, _, ⟨rfl, rfl⟩, .p t36⟩
   rintro _ _ ⟨rfl, rfl⟩;refine rnN 1 ?_;obtain ⟨c37, hc37, h⟩ := zS h;refine zh 6 (fun L τ => L = [(2, .op 0 0 0), (3, .op 1 0 0), (6, .os true 1 2 (v12 + 1) 0 (qb (l11 ++ [y17.fName])) false), (7, .int .i64 x13), (119, .bool c37)] ∧ τ = [.cells 0 (encGSchema a0), .cells 0 (encGMessage a1), .cells (v12 + 1) (qe encS (l11 ++ [y17.fName])), .cells 0 (encGField y17), .cells 0 [.str y17.fName], .cells 0 (encGField r31.1)]) ?_ ?_
   · refine zI (b := ((decide (y17.fLabel < 1)) || (decide (3 < y17.fLabel)))) 113 rfl (fun hg113 => ?_) (fun hg113 => ?_)
     · rw [if_pos hg113] at hc37;refine rnN 6 ?_;subst hc37;refine zb ⟨rfl, _, _, ⟨rfl, rfl⟩, .b hg113⟩
     rw [xP hg113] at hc37;obtain ⟨r38, hr38, hc37⟩ := zS hc37;refine rnN 3 ?_;refine clN rfl rfl rfl (yW.ev a0 y17.fType r38 hr38 _) ?_;refine rnN 2 ?_;subst hc37;refine zb ⟨rfl, _, _, ⟨rfl, rfl⟩, .b hg113⟩
   rintro _ _ ⟨rfl, rfl⟩;refine nkN hK ?_;refine zn (b := c37) rfl (fun hc39 => ?_) (fun hc39 => ?_)
   · rw [if_pos hc39] at h;refine rgN [4] ?_;cases h;exact rtA
   rw [xP hc39] at h;apply zd;apply hZ20
   refine rgE tok [2, 3, 6, 7] fun K hK => ?_
   simp only [go_sem, qc, qa, hw17];apply hK
   exact ⟨_, _, _, qs q17.length, ⟨p17 ++ [y17], q17, x13 + 1, l11 ++ [y17.fName], v12 + 1, rfl, rfl, rfl, hE'17, hi'17, h⟩, (.t [0, 1, 2] false)⟩
 obtain ⟨hz8, hw8, hx8, hE'8, hi'8⟩ := zX hE8 hi8 hb8;simp only [zF.l8] at h
 refine za fun Z40 hZ40 => ?_
 refine rg tok [2, 3, 5, 25] fun K hK => ?_
 simp only [go_sem, qc, qa, qd, hz8];apply hK
 refine zq rfl ?_;apply zd;apply hZ40
 refine za fun Z41 hZ41 => ?_
 apply ze;refine xr (fun L τ => ∃ (x42 : Bool), L = [(2, .op 0 0 0), (3, .op 1 0 0), (5, .int .i64 x6), (54, .bool x42)] ∧ τ = [.cells 0 (encGSchema a0), .cells 0 (encGMessage a1)] ∧ zF.j43 x6 (zF.l8 a0 a1 q8) x42 = some r) ?_ ?_
 · refine rdE [2, 3, 5, 54] fun K hK => ?_
   refine DW.start (T := tab) [.any, .at [], .any, .any, .at [], .any, .any, .any, .at [], .any, .any, .at [], .any, .any, .any, .any, .at [], .any, .any, .any, .any, .at [], .any, .any, .at [], .eff, .any] [] ?_;have f45 := E45.idxS hx8;have f46 := E45.fldS0 (f := 3) rfl rfl hx8;refine DW.runN tok 7 ?_;simp only [go_sem, qc, qa, qd, encI, f45, f46]
   refine DW.if 34 rfl (fun hg34 => ?_) (fun hg34 => ?_)
   · rw [if_pos hg34] at h;have t47 := eq_true hg34;refine DW.runN tok 8 ?_;simp only [go_sem, qc, qa, t47];refine DW.runN tok 8 ?_;simp only [go_sem, qc, qa];refine DW.runN tok 4 ?_;simp only [go_sem, qc, qa];refine DW.fin tok (by decide +kernel) rfl ?_;simp only [zp, upd, qa, reduceIte, yP, xG];apply hK
     exact ⟨_, _, ⟨true, rfl, rfl, h⟩, .s⟩
   rw [if_neg hg34] at h;have t48 := eq_false hg34;have f49 := E45.idxS hx8;have f50 := E45.fldS0 (f := 3) rfl rfl hx8;refine DW.runN tok 8 ?_;simp only [go_sem, qc, qa, qd, encI, t48, f49, f50]
   refine DW.if 42 rfl (fun hg42 => ?_) (fun hg42 => ?_)
   · rw [if_pos hg42] at h;have t51 := eq_true hg42;refine DW.runN tok 8 ?_;simp only [go_sem, qc, qa, t51];refine DW.runN tok 4 ?_;simp only [go_sem, qc, qa];refine DW.fin tok (by decide +kernel) rfl ?_;simp only [zp, upd, qa, reduceIte, yP, xG];apply hK
     exact ⟨_, _, ⟨true, rfl, rfl, h⟩, .s⟩
   rw [if_neg hg42] at h;have t52 := eq_false hg42;obtain ⟨_u53, hu53, h⟩ := bind_some h;have gu53 := wy hu53;have f54 := E45.sl_hi gu53;have f55 := E45.idxS hx8;have f56 := E45.fldS0 (f := 3) rfl rfl hx8;obtain ⟨r57, hr57, h⟩ := zS h;refine DW.runN tok 8 ?_;simp only [go_sem, qc, qf, qa, qd, t52, f54];refine DW.runN tok 2 ?_;simp only [go_sem, qc, qa, encI, f55, f56];refine DW.call rfl rfl rfl (ACalls.loose (yr.ev (⟨[], ([] : List GField), YS a1.fReserved 0 x6⟩ : GMessage) y8 r57 hr57 _)) ?_;refine DW.runN tok 1 ?_;simp only [go_sem, qc, qa];refine DW.fin tok (by decide +kernel) rfl ?_;simp only [zp, upd, qa, reduceIte, yP, xG];apply hK
   exact ⟨_, _, ⟨r57, rfl, rfl, h⟩, .s⟩
 rintro _ _ ⟨x42, rfl, rfl, h⟩;unfold zF.j43 at h;refine zn (b := x42) rfl (fun hc44 => ?_) (fun hc44 => ?_)
 · rw [if_pos hc44] at h;refine rgN [4] ?_;cases h;exact rtA
 rw [xP hc44] at h;apply zd;apply hZ41
 refine rgE tok [2, 3, 5] fun K hK => ?_
 simp only [go_sem, qc, qa, hw8];apply hK
 exact ⟨_, _, _, qs q8.length, ⟨p8 ++ [y8], q8, x6 + 1, rfl, rfl, rfl, hE'8, hi'8, h⟩, .s⟩
theorem zF.ev (a0 : GSchema) (a1 : GMessage) (r : Int) (h : zF a0 a1 = some r) (σ : Store) : ACalls qh 82 [.agg (encGSchema a0), .agg (encGMessage a1)] σ (fun r' σ' => r' = .int .i64 r ∧ σ' = σ) :=
 (zF.ok a0 a1 r h).c σ
def zZ.l38 (a0 : GEnumeration) (x17 : Int) (l15 : List (List UInt8)) (rec21 : Int → List (List UInt8) → Option Int) (y21 : GNamed) : Nat → Int → Option Int
 | 0, _ => none
 | k38 + 1, x36 => (if x36 < x17 then (Zb a0.fValues x36).bind fun y43 => (if y43.fN = y21.fN then some 11 else ((zZ.l38 a0 x17 l15 rec21 y21 k38) (IntKind.i64.wrap (x36 + 1)))) else (rec21 (x17 + 1) (l15 ++ [y21.fName])))
def zZ.l21 (a0 : GEnumeration) : List GNamed → Int → List (List UInt8) → Option Int
 | [], x17, l15 => some 0
 | y21 :: q21, x17, l15 => (yo y21.fName l15).bind fun r28 => (if (!r28) = true then some 6 else (Yf (qb l15 + 1) 16).bind fun _u30 => (if ((decide (y21.fN < 0)) || (decide (2147483647 < y21.fN))) = true then some 11 else (zZ.l38 a0 x17 l15 (zZ.l21 a0 q21) y21 rounds 0)))
def zZ.l10 (a0 : GEnumeration) : List GNamed → Int → Bool → Option Int
 | [], x7, x6 => (if (!x6) = true then some 12 else (zZ.l21 a0 a0.fValues 0 ([] : List (List UInt8))))
 | y10 :: q10, x7, x6 => ((zZ.l10 a0 q10) (x7 + 1) (x6 || (decide (y10.fN = 0))))
def zZ (a0 : GEnumeration) : Option Int :=
 (if 16 < (qb a0.fValues : Int) then some 4 else (zZ.l10 a0 a0.fValues 0 false))
theorem zZ.ok (a0 : GEnumeration) (r : Int) (h : zZ a0 = some r) : ACalls qh 83 [.agg (encGEnumeration a0)] [] (fun r' _ => r' = .int .i64 r) := by
 refine zf (rs := [.tmp 2]) tok Tryz.func83 rfl Tryz.ntmps83 rfl Tryz.call83 (by simp) ?_;refine zl [(0, .agg (encGEnumeration a0))] ⟨rfl, trivial⟩ ?_;unfold zZ at h
 refine rg tok [1] fun K hK => ?_
 simp only [go_sem, qc, qa, qd, reduceCtorEq, encGEnumeration];apply hK
 refine za fun Z1 hZ1 => ?_
 refine rgN [1, 12] ?_;refine zw rfl (fun hc2 => ?_) (fun hc2 => ?_)
 · rw [if_pos hc2] at h;have t3 := eq_true hc2
   refine rg tok [2] fun K hK => ?_
   simp only [go_sem, qc, qa, t3];apply hK
   cases h;exact rtA
 rw [if_neg hc2] at h;have t4 := eq_false hc2;apply zd;apply hZ1
 refine rg tok [1, 3] fun K hK => ?_
 simp only [go_sem, qc, qa, t4];apply hK
 refine za fun Z5 hZ5 => ?_
 refine rgN [1, 3, 4] ?_;apply ze
 refine xA 0 rfl fun hb10 => ?_
 replace hb10 : qb a0.fValues ≤ 9223372036854775807 := hb10.2.1.1;refine zr (fun m L τ => ∃ (p10 q10 : List GNamed) (x7 : Int) (x6 : Bool), m = qb q10 ∧ L = [(1, .op 0 0 0), (3, .bool x6), (4, .int .i64 x7)] ∧ τ = [.cells 0 (encGEnumeration a0)] ∧ a0.fValues = p10 ++ q10 ∧ x7 = (qb p10 : Int) ∧ zZ.l10 a0 q10 x7 x6 = some r) _ ⟨[], a0.fValues, 0, false, rfl, rfl, rfl, rfl, rfl, h⟩ .s ?_;rintro m L τ ⟨p10, q10, x7, x6, rfl, rfl, rfl, hE10, hi10, h⟩
 rcases q10 with _ | ⟨y10, q10⟩
 · have hz10 := yq hE10 hi10;simp only [zZ.l10] at h
   refine za fun Z11 hZ11 => ?_
   refine rg tok [1, 3, 4, 17] fun K hK => ?_
   simp only [go_sem, qc, qa, qd, hz10];apply hK
   refine zo rfl ?_;apply zy;apply hZ5
   refine za fun Z12 hZ12 => ?_
   refine rgN [1, 31] ?_;refine zn (b := (!x6)) rfl (fun hc13 => ?_) (fun hc13 => ?_)
   · rw [if_pos hc13] at h;refine rgN [2] ?_;cases h;exact rtA
   rw [xP hc13] at h;apply zd;apply hZ12;refine rgN [1, 5] ?_;refine wN 5 1 rfl ?_;refine zV (L := [(1, .op 0 0 0), (5, .os true 1 1 0 0 (qb ([] : List (List UInt8))) false)]) (τ := [.cells 0 (encGEnumeration a0), .cells 0 (qe encS ([] : List (List UInt8)))]) .s ?_
   refine za fun Z14 hZ14 => ?_
   refine rgN [1, 5, 6] ?_;apply ze
   refine xA 0 rfl fun hb21 => ?_
   replace hb21 : qb a0.fValues ≤ 9223372036854775807 := hb21.2.1.1;refine zr (fun m L τ => ∃ (p21 q21 : List GNamed) (x17 : Int) (l15 : List (List UInt8)) (v16 : Nat), m = qb q21 ∧ L = [(1, .op 0 0 0), (5, .os true 1 1 v16 0 (qb l15) false), (6, .int .i64 x17)] ∧ τ = [.cells 0 (encGEnumeration a0), .cells v16 (qe encS l15)] ∧ a0.fValues = p21 ++ q21 ∧ x17 = (qb p21 : Int) ∧ zZ.l21 a0 q21 x17 l15 = some r) _ ⟨[], a0.fValues, 0, ([] : List (List UInt8)), 0, rfl, rfl, rfl, rfl, rfl, h⟩ .s ?_;rintro m L τ ⟨p21, q21, x17, l15, v16, rfl, rfl, rfl, hE21, hi21, h⟩
   rcases q21 with _ | ⟨y21, q21⟩
   · have hz21 := yq hE21 hi21;simp only [zZ.l21] at h
     refine za fun Z22 hZ22 => ?_
     refine rg tok [1, 5, 6, 36] fun K hK => ?_
     simp only [go_sem, qc, qa, qd, hz21];apply hK
     refine zo rfl ?_;apply zy;apply hZ14;refine rgN [2] ?_;cases h;exact rtA
   obtain ⟨hz21, hw21, hx21, hE'21, hi'21⟩ := zX hE21 hi21 hb21;simp only [zZ.l21] at h
   refine za fun Z23 hZ23 => ?_
   refine rg tok [1, 5, 6, 36] fun K hK => ?_
   simp only [go_sem, qc, qa, qd, hz21];apply hK
   refine zq rfl ?_;apply zd;apply hZ23
   refine za fun Z24 hZ24 => ?_
   apply ze;have f25 := E82.idxS hx21;have f26 := E82.loadS rfl rfl hx21
   refine rg tok [1, 5, 6, 7] fun K hK => ?_
   simp only [go_sem, qc, qf, qa, qd, encGNamed, f25, f26];apply hK
   refine za fun Z27 hZ27 => ?_
   refine rc [1, 5, 6, 7, 48] fun K hK => ?_
   obtain ⟨r28, hr28, h⟩ := bind_some h;refine rnN 3 ?_;refine clN rfl rfl rfl (yo.ok y21.fName l15 r28 hr28).ld ?_;refine rnN 1 ?_;refine nkN hK ?_;refine zn (b := (!r28)) rfl (fun hc29 => ?_) (fun hc29 => ?_)
   · rw [if_pos hc29] at h;refine rgN [2] ?_;cases h;exact rtA
   rw [xP hc29] at h;apply zd;apply hZ27;obtain ⟨_u30, hu30, h⟩ := bind_some h;have gu30 := yi hu30;have f31 := (zv E98.len l15)
   refine rg tok [1, 5, 6, 7] fun K hK => ?_
   simp only [go_sem, qc, qf, qa, qd, qt, zN, z6, q9, qY, true_and, ue, z8, zO, yj, gu30, f31, yB, ua, qW, AV.one, qU, qA, qj, ql, qn, qE];apply hK
   refine zV (L := [(1, .op 0 0 0), (5, .os true 1 1 (v16 + 1) 0 (qb (l15 ++ [y21.fName])) false), (6, .int .i64 x17), (7, .op 2 0 0)]) (τ := [.cells 0 (encGEnumeration a0), .cells (v16 + 1) (qe encS (l15 ++ [y21.fName])), .cells 0 [.str y21.fName, .int .i64 y21.fN], .cells 0 [.str y21.fName]]) .s ?_
   refine za fun Z32 hZ32 => ?_
   refine rc [1, 5, 6, 7, 61] fun K hK => ?_
   refine rnN 4 ?_;refine zh 4 (fun L τ => L = [(1, .op 0 0 0), (5, .os true 1 1 (v16 + 1) 0 (qb (l15 ++ [y21.fName])) false), (6, .int .i64 x17), (7, .op 2 0 0), (61, .bool ((decide (y21.fN < 0)) || (decide (2147483647 < y21.fN))))] ∧ τ = [.cells 0 (encGEnumeration a0), .cells (v16 + 1) (qe encS (l15 ++ [y21.fName])), .cells 0 [.str y21.fName, .int .i64 y21.fN], .cells 0 [.str y21.fName]]) ?_ ?_
   · refine yF 57 rfl (fun hg57 => ?_) (fun hg57 => ?_)
     · have t33 := eq_true hg57;refine rnN 4 ?_;refine zb ⟨rfl, _, _, ⟨rfl, rfl⟩, .p t33⟩
     have t34 := eq_false hg57;refine rnN 4 ?_;refine zb ⟨rfl, _, _, ⟨rfl, rfl⟩, .p t34⟩
   rintro _ _ ⟨rfl, rfl⟩;refine nkN hK ?_;refine zn (b := ((decide (y21.fN < 0)) || (decide (2147483647 < y21.fN)))) rfl (fun hc35 => ?_) (fun hc35 => ?_)
   · rw [if_pos hc35] at h;refine rgN [2] ?_;cases h;exact rtA
   rw [xP hc35] at h;apply zd;apply hZ32;refine rgN [1, 5, 6, 7, 8] ?_;apply ze;refine zr (fun m L τ => ∃ (k38 : Nat) (x36 : Int), m = 0 + k38 ∧ L = [(1, .op 0 0 0), (5, .os true 1 1 (v16 + 1) 0 (qb (l15 ++ [y21.fName])) false), (6, .int .i64 x17), (7, .op 2 0 0), (8, .int .i64 x36)] ∧ τ = [.cells 0 (encGEnumeration a0), .cells (v16 + 1) (qe encS (l15 ++ [y21.fName])), .cells 0 [.str y21.fName, .int .i64 y21.fN]] ∧ zZ.l38 a0 x17 l15 (zZ.l21 a0 q21) y21 k38 x36 = some r) _ ⟨rounds, 0, rfl, rfl, rfl, h⟩ (.t [0, 1, 2] false) ?_;rintro m L τ ⟨k38, x36, rfl, rfl, rfl, h⟩
   rcases k38 with _ | k38
   · cases h
   simp only [zZ.l38] at h
   refine za fun Z39 hZ39 => ?_
   refine rgN [1, 5, 6, 7, 8, 64] ?_;refine zw rfl (fun hc40 => ?_) (fun hc40 => ?_)
   · rw [if_pos hc40] at h;have t41 := eq_true hc40;apply zd;apply hZ39
     refine za fun Z42 hZ42 => ?_
     apply ze;obtain ⟨y43, hy43, h⟩ := bind_some h;have f44 := E82.idxS hy43;have f45 := E82.fldS (f := 3) rfl rfl hy43 (o := 1) (by decide)
     refine rd [1, 5, 6, 7, 8, 75] fun K hK => ?_
     refine DW.start (T := tab) [.any, .at [], .any, .any, .any, .at [], .any, .at [], .any] [] ?_;refine DW.runN tok 8 ?_;simp only [go_sem, qc, qa, qd, encGNamed, t41, f44, f45];refine DW.runN tok 1 ?_;simp only [go_sem, qc, qa];refine DW.fin tok (by decide +kernel) rfl ?_;simp only [zp, upd, qa, reduceIte, yP, xG];apply hK
     refine zw rfl (fun hc46 => ?_) (fun hc46 => ?_)
     · rw [if_pos hc46] at h;have t47 := eq_true hc46
       refine rg tok [2] fun K hK => ?_
       simp only [go_sem, qc, qa, t47];apply hK
       cases h;exact rtA
     rw [if_neg hc46] at h;have t48 := eq_false hc46;apply zd;apply hZ42
     refine rgE tok [1, 5, 6, 7, 8] fun K hK => ?_
     simp only [go_sem, qc, qa, t48];apply hK
     exact ⟨_, _, _, qs (0 + k38), ⟨k38, IntKind.i64.wrap (x36 + 1), rfl, rfl, rfl, h⟩, .s⟩
   rw [if_neg hc40] at h;have t49 := eq_false hc40;apply zy;apply hZ24
   refine rgE tok [1, 5, 6] fun K hK => ?_
   simp only [go_sem, qc, qa, hw21, t49];apply hK
   exact ⟨_, _, _, qs q21.length, ⟨p21 ++ [y21], q21, x17 + 1, l15 ++ [y21.fName], v16 + 1, rfl, rfl, rfl, hE'21, hi'21, h⟩, (.t [0, 1] false)⟩
 obtain ⟨hz10, hw10, hx10, hE'10, hi'10⟩ := zX hE10 hi10 hb10;simp only [zZ.l10] at h
 refine za fun Z50 hZ50 => ?_
 refine rg tok [1, 3, 4, 17] fun K hK => ?_
 simp only [go_sem, qc, qa, qd, hz10];apply hK
 refine zq rfl ?_;apply zd;apply hZ50
 refine za fun Z51 hZ51 => ?_
 apply ze
 refine rcE [1, 3, 4] fun K hK => ?_
 refine rnN 2 ?_;refine zh 8 (fun L τ => L = [(1, .op 0 0 0), (3, .bool x6), (4, .int .i64 x7), (29, .bool (x6 || (decide (y10.fN = 0))))] ∧ τ = [.cells 0 (encGEnumeration a0)]) ?_ ?_
 · refine zI (b := x6) 21 rfl (fun hg21 => ?_) (fun hg21 => ?_)
   · refine rnN 8 ?_;refine zb ⟨rfl, _, _, ⟨rfl, rfl⟩, .b hg21⟩
   have f52 := E82.idxS hx10;have f53 := E82.fldS (f := 3) rfl rfl hx10 (o := 1) (by decide);refine zj tok 8 ?_;simp only [go_sem, qc, qa, qd, encGNamed, f52, f53];refine zb ⟨rfl, _, _, ⟨rfl, rfl⟩, .b hg21⟩
 rintro _ _ ⟨rfl, rfl⟩;refine rnN 1 ?_;refine nkN hK ?_;apply hZ51
 refine rgE tok [1, 3, 4] fun K hK => ?_
 simp only [go_sem, qc, qa, hw10];apply hK
 exact ⟨_, _, _, qs q10.length, ⟨p10 ++ [y10], q10, x7 + 1, (x6 || (decide (y10.fN = 0))), rfl, rfl, rfl, hE'10, hi'10, h⟩, .s⟩
theorem zZ.ev (a0 : GEnumeration) (r : Int) (h : zZ a0 = some r) (σ : Store) : ACalls qh 83 [.agg (encGEnumeration a0)] σ (fun r' σ' => r' = .int .i64 r ∧ σ' = σ) :=
 (zZ.ok a0 r h).c σ
def yz.l17 : List GEnumeration → Int → List (List UInt8) → Option Int
 | [], x13, l11 => some 0
 | y17 :: q17, x13, l11 => (yo y17.fName l11).bind fun r24 => (if (!r24) = true then some 6 else (Yf (qb l11 + 1) 16).bind fun _u28 => (zZ y17).bind fun r32 => (if r32 = 0 then ((yz.l17 q17) (x13 + 1) (l11 ++ [y17.fName])) else some r32))
def yz.l8 (a0 : GSchema) : List GMessage → Int → List (List UInt8) → Option Int
 | [], x4, l2 => (yz.l17 a0.fEnums 0 l2)
 | y8 :: q8, x4, l2 => (yo y8.fName l2).bind fun r41 => (if (!r41) = true then some 6 else (Yf (qb l2 + 1) 16).bind fun _u45 => (zF a0 y8).bind fun r49 => (if r49 = 0 then ((yz.l8 a0 q8) (x4 + 1) (l2 ++ [y8.fName])) else some r49))
def yz (a0 : GSchema) : Option Int :=
 (yz.l8 a0 a0.fMessages 0 ([] : List (List UInt8)))
theorem yz.ok (a0 : GSchema) (r : Int) (h : yz a0 = some r) : ACalls qh 46 [.agg (encGSchema a0)] [] (fun r' _ => r' = .int .i64 r) := by
 refine zf (rs := [.tmp 2]) tok Tryz.func46 rfl Tryz.ntmps46 rfl Tryz.call46 (by simp) ?_;refine zl [(0, .agg (encGSchema a0))] ⟨rfl, trivial⟩ ?_;unfold yz at h
 refine rg tok [1] fun K hK => ?_
 simp only [go_sem, qc, qa, qd, reduceCtorEq, encGSchema];apply hK
 refine rgN [1, 3] ?_;refine wN 3 1 rfl ?_;refine zV (L := [(1, .op 0 0 0), (3, .os true 1 1 0 0 (qb ([] : List (List UInt8))) false)]) (τ := [.cells 0 (encGSchema a0), .cells 0 (qe encS ([] : List (List UInt8)))]) .s ?_
 refine za fun Z1 hZ1 => ?_
 refine rgN [1, 3, 4] ?_;apply ze
 refine xA 0 rfl fun hb8 => ?_
 replace hb8 : qb a0.fMessages ≤ 9223372036854775807 := hb8.2.1.1;refine zr (fun m L τ => ∃ (p8 q8 : List GMessage) (x4 : Int) (l2 : List (List UInt8)) (v3 : Nat), m = qb q8 ∧ L = [(1, .op 0 0 0), (3, .os true 1 1 v3 0 (qb l2) false), (4, .int .i64 x4)] ∧ τ = [.cells 0 (encGSchema a0), .cells v3 (qe encS l2)] ∧ a0.fMessages = p8 ++ q8 ∧ x4 = (qb p8 : Int) ∧ yz.l8 a0 q8 x4 l2 = some r) _ ⟨[], a0.fMessages, 0, ([] : List (List UInt8)), 0, rfl, rfl, rfl, rfl, rfl, h⟩ .s ?_;rintro m L τ ⟨p8, q8, x4, l2, v3, rfl, rfl, rfl, hE8, hi8, h⟩
 rcases q8 with _ | ⟨y8, q8⟩
 · have hz8 := yq hE8 hi8;simp only [yz.l8] at h
   refine za fun Z9 hZ9 => ?_
   refine rg tok [1, 3, 4, 12] fun K hK => ?_
   simp only [go_sem, qc, qa, qd, hz8];apply hK
   refine zo rfl ?_;apply zy;apply hZ1
   refine za fun Z10 hZ10 => ?_
   refine rgN [1, 3, 6] ?_;apply ze
   refine xA 0 rfl fun hb17 => ?_
   replace hb17 : qb a0.fEnums ≤ 9223372036854775807 := hb17.2.2.1.1;refine zr (fun m L τ => ∃ (p17 q17 : List GEnumeration) (x13 : Int) (l11 : List (List UInt8)) (v12 : Nat), m = qb q17 ∧ L = [(1, .op 0 0 0), (3, .os true 1 1 v12 0 (qb l11) false), (6, .int .i64 x13)] ∧ τ = [.cells 0 (encGSchema a0), .cells v12 (qe encS l11)] ∧ a0.fEnums = p17 ++ q17 ∧ x13 = (qb p17 : Int) ∧ yz.l17 q17 x13 l11 = some r) _ ⟨[], a0.fEnums, 0, l2, v3, rfl, rfl, rfl, rfl, rfl, h⟩ .s ?_;rintro m L τ ⟨p17, q17, x13, l11, v12, rfl, rfl, rfl, hE17, hi17, h⟩
   rcases q17 with _ | ⟨y17, q17⟩
   · have hz17 := yq hE17 hi17;simp only [yz.l17] at h
     refine za fun Z18 hZ18 => ?_
     refine rg tok [1, 3, 6, 47] fun K hK => ?_
     simp only [go_sem, qc, qa, qd, hz17];apply hK
     refine zo rfl ?_;apply zy;apply hZ10;refine rgN [2] ?_;cases h;exact rtA
   obtain ⟨hz17, hw17, hx17, hE'17, hi'17⟩ := zX hE17 hi17 hb17;simp only [yz.l17] at h
   refine za fun Z19 hZ19 => ?_
   refine rg tok [1, 3, 6, 47] fun K hK => ?_
   simp only [go_sem, qc, qa, qd, hz17];apply hK
   refine zq rfl ?_;apply zd;apply hZ19
   refine za fun Z20 hZ20 => ?_
   apply ze
   refine za fun Z21 hZ21 => ?_
   refine rc [1, 3, 6, 58] fun K hK => ?_
   have f22 := E23.idxS hx17;have f23 := E23.fldS0 (f := 9) rfl rfl hx17;obtain ⟨r24, hr24, h⟩ := bind_some h;refine zj tok 7 ?_;simp only [go_sem, qc, qa, qd, encGEnumeration, f22, f23];refine clN rfl rfl rfl (yo.ok y17.fName l11 r24 hr24).ld ?_;refine rnN 1 ?_;refine nkN hK ?_;refine zn (b := (!r24)) rfl (fun hc25 => ?_) (fun hc25 => ?_)
   · rw [if_pos hc25] at h;refine rgN [2] ?_;cases h;exact rtA
   rw [xP hc25] at h;apply zd;apply hZ21;have f26 := E23.idxS hx17;have f27 := E23.fldS0 (f := 9) rfl rfl hx17;obtain ⟨_u28, hu28, h⟩ := bind_some h;have gu28 := yi hu28;have f29 := (zv E98.len l11)
   refine rg tok [1, 3, 6] fun K hK => ?_
   simp only [go_sem, qc, qf, qa, qd, qt, zN, z6, q9, qY, true_and, ue, z8, zO, yj, encGEnumeration, f26, f27, gu28, f29, yB, ua, qW, AV.one, qU, qA, qj, ql, qn, qE];apply hK
   refine zV (L := [(1, .op 0 0 0), (3, .os true 1 1 (v12 + 1) 0 (qb (l11 ++ [y17.fName])) false), (6, .int .i64 x13)]) (τ := [.cells 0 (encGSchema a0), .cells (v12 + 1) (qe encS (l11 ++ [y17.fName])), .cells 0 [.str y17.fName]]) .s ?_
   refine rc [1, 3, 6, 7] fun K hK => ?_
   have f30 := E23.idxS hx17;have f31 := E23.loadS rfl rfl hx17;obtain ⟨r32, hr32, h⟩ := bind_some h;refine zj tok 5 ?_;simp only [go_sem, qc, qa, qd, encGEnumeration, f30, f31];refine clN rfl rfl rfl (zZ.ev y17 r32 hr32 _) ?_;refine rnN 1 ?_;refine nkN hK ?_;refine rgN [1, 3, 6, 7, 75] ?_;refine zw rfl (fun hc33 => ?_) (fun hc33 => ?_)
   · rw [if_neg hc33] at h;have t34 := eq_false hc33
     refine rg tok [2] fun K hK => ?_
     simp only [go_sem, qc, qa, t34];apply hK
     cases h;exact rtA
   rw [if_pos hc33] at h;have t35 := eq_true hc33;apply zd;apply hZ20
   refine rgE tok [1, 3, 6] fun K hK => ?_
   simp only [go_sem, qc, qa, hw17, t35];apply hK
   exact ⟨_, _, _, qs q17.length, ⟨p17 ++ [y17], q17, x13 + 1, l11 ++ [y17.fName], v12 + 1, rfl, rfl, rfl, hE'17, hi'17, h⟩, (.t [0, 1] false)⟩
 obtain ⟨hz8, hw8, hx8, hE'8, hi'8⟩ := zX hE8 hi8 hb8;simp only [yz.l8] at h
 refine za fun Z36 hZ36 => ?_
 refine rg tok [1, 3, 4, 12] fun K hK => ?_
 simp only [go_sem, qc, qa, qd, hz8];apply hK
 refine zq rfl ?_;apply zd;apply hZ36
 refine za fun Z37 hZ37 => ?_
 apply ze
 refine za fun Z38 hZ38 => ?_
 refine rc [1, 3, 4, 23] fun K hK => ?_
 have f39 := E22.idxS hx8;have f40 := E22.fldS0 (f := 9) rfl rfl hx8;obtain ⟨r41, hr41, h⟩ := bind_some h;refine zj tok 7 ?_;simp only [go_sem, qc, qa, qd, encGMessage, f39, f40];refine clN rfl rfl rfl (yo.ok y8.fName l2 r41 hr41).ld ?_;refine rnN 1 ?_;refine nkN hK ?_;refine zn (b := (!r41)) rfl (fun hc42 => ?_) (fun hc42 => ?_)
 · rw [if_pos hc42] at h;refine rgN [2] ?_;cases h;exact rtA
 rw [xP hc42] at h;apply zd;apply hZ38;have f43 := E22.idxS hx8;have f44 := E22.fldS0 (f := 9) rfl rfl hx8;obtain ⟨_u45, hu45, h⟩ := bind_some h;have gu45 := yi hu45;have f46 := (zv E98.len l2)
 refine rg tok [1, 3, 4] fun K hK => ?_
 simp only [go_sem, qc, qf, qa, qd, qt, zN, z6, q9, qY, true_and, ue, z8, zO, yj, encGMessage, f43, f44, gu45, f46, yB, ua, qW, AV.one, qU, qA, qj, ql, qn, qE];apply hK
 refine zV (L := [(1, .op 0 0 0), (3, .os true 1 1 (v3 + 1) 0 (qb (l2 ++ [y8.fName])) false), (4, .int .i64 x4)]) (τ := [.cells 0 (encGSchema a0), .cells (v3 + 1) (qe encS (l2 ++ [y8.fName])), .cells 0 [.str y8.fName]]) .s ?_;have f47 := E22.idxS hx8;have f48 := E22.loadS rfl rfl hx8;obtain ⟨r49, hr49, h⟩ := bind_some h
 refine rd [1, 3, 4, 5] fun K hK => ?_
 refine DW.start (T := tab) [.at [], .any, .at [], .any, .any, .at [], .eff, .any] [] ?_;refine DW.runN tok 6 ?_;simp only [go_sem, qc, qf, qa, qd, encGMessage, f47, f48];refine DW.call rfl rfl rfl (zF.ev a0 y8 r49 hr49 _) ?_;refine DW.runN tok 1 ?_;simp only [go_sem, qc, qa];refine DW.fin tok (by decide +kernel) rfl ?_;simp only [zp, upd, qa, reduceIte, yP, xG];apply hK
 refine rgN [1, 3, 4, 5, 41] ?_;refine zw rfl (fun hc50 => ?_) (fun hc50 => ?_)
 · rw [if_neg hc50] at h;have t51 := eq_false hc50
   refine rg tok [2] fun K hK => ?_
   simp only [go_sem, qc, qa, t51];apply hK
   cases h;exact rtA
 rw [if_pos hc50] at h;have t52 := eq_true hc50;apply zd;apply hZ37
 refine rgE tok [1, 3, 4] fun K hK => ?_
 simp only [go_sem, qc, qa, hw8, t52];apply hK
 exact ⟨_, _, _, qs q8.length, ⟨p8 ++ [y8], q8, x4 + 1, l2 ++ [y8.fName], v3 + 1, rfl, rfl, rfl, hE'8, hi'8, h⟩, (.t [0, 1] false)⟩
end
end Go.Proofs.YtaddlmlpeghonaaGreatDoor
