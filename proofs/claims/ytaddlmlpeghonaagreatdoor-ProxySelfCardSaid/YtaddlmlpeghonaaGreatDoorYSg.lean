/- Parts of the proof, cut down to what it needs. -/
import Derived.Test.YtaddlmlpeghonaaGreatDoorYFB
import Derived.Test.YtaddlmlpeghonaaGreatDoorYFBa
set_option linter.constructorNameAsVariable false
set_option linter.unusedSimpArgs false
set_option linter.unusedVariables false
namespace Go.Proofs.YtaddlmlpeghonaaGreatDoor
open _root_.List renaming length → qb, flatMap → qe, length_append → qi, length_cons → qj, length_nil → ql, mem_cons_self → qp, append_assoc → qq, mem_cons_of_mem → qr, getD_eq_getElem?_getD → qv, map_nil → qw, append_nil → qy, nil_append → qA, drop_zero → qB, map_append → qC, map_cons → qD, cons_append → qE, length_singleton → qF, length_eq_zero_iff → qI, replicate → qJ, mem_cons → qK, getElem?_append_left → qR, flatMap_cons → qT, all_cons → qW, getElem?_eq_getElem → qX, range_zero → qY, getElem?_eq_some_iff → q2, flatMap_append → q3, length_map → q7, range_succ → q9, all_nil → ua, all_eq_true → ub, getElem?_set_ne → uc, take_of_length_le → ug, getElem?_append_right → uh, flatMap_nil → ui, take_length → ul, pairwise_cons → um, take_append_drop → un, mem_append_right → uo, getElem?_set_self → ut, getElem?_eq_none → uu, set_cons_zero → uv, mem_append → uw, mem_map → ux, mem_singleton → uA, filter_cons → uB, range → uD, getElem?_cons_zero → uG, getElem?_cons_succ → uH, length_take → uI, length_drop → uJ, set_cons_succ → uO, mem_append_left → uS, drop_eq_getElem_cons → uU, nodup_cons → uW, eq_nil_of_length_eq_zero → u0, drop_drop → u5
open _root_.Option renaming bind_some → qg, map_some → uz, getD_some → uN
open _root_.Nat renaming reduceEqDiff → qa, reduceLT → qc, reduceAdd → qd, reduceLeDiff → qf, zero_add → qn, lt_succ_self → qs, reduceMul → qt, le_refl → qu, reduceSub → qG, mul_le_mul_right → qZ, reduceMod → ue, lt_of_lt_of_le → uf, zero_le → uk, le_trans → ur, zero_mul → uC, sub_self → uL, sub_zero → uM, succ_mul → uQ, add_zero → uR, add_mul → uV, lt_or_ge → uY, add_assoc → u3
open _root_.Bool renaming and_eq_true → qm, not_false → qz, not_true → qL, or_eq_true → qM, or_true → qO, and_false → qP, and_true → qQ, or_false → qS, and_self → qU, false_eq_true → q1, true_and → uq, not_eq_true' → uE, false_or → uF, false_ne_true → uK, true_or → uT
open _root_.Int renaming toNat → qH, toNat_natCast → qV, reduceEq → uZ, le_refl → u4
open _root_.BitVec renaming ofInt → qx, toNat → uj
open _root_.Array renaming length_toList → ud, getD_eq_getD_getElem? → uy, getElem?_eq_getElem → uP, getElem?_setIfInBounds_ne → uX, getElem?_modify → u6
open _root_.UInt8 renaming ofNat → q5
open Result renaming andThen_ok → qk
open Sem renaming run_bind → qo, run_pure → qN
open _root_.Go.Proofs.Tryz renaming prog → qh
section
set_option maxRecDepth 4000
set_option maxHeartbeats 1000000
open AM
theorem yz.ev (a0 : GSchema) (r : Int) (h : yz a0 = some r) (σ : Store) : ACalls qh 46 [.agg (encGSchema a0)] σ (fun r' σ' => r' = .int .i64 r ∧ σ' = σ) :=
 (yz.ok a0 r h).c σ
def xa.l22 (a0 : GSchema) : List GMethod → Int → List (List UInt8) → Option Int
 | [], x18, l16 => some 0
 | y22 :: q22, x18, l16 => (yo y22.fName l16).bind fun r29 => (if (!r29) = true then some 6 else (Yf (qb l16 + 1) 16).bind fun _u31 => bnd (yh a0 y22.fIn) fun r33 => bnd (yh a0 y22.fOut) fun r34 => (if ((!r33.2) || (!r34.2)) = true then some 8 else ((xa.l22 a0 q22) (x18 + 1) (l16 ++ [y22.fName]))))
def xa (a0 : GSchema) : Option Int :=
 (xb a0.fName).bind fun r2 => (if (!r2) = true then some 6 else (if (qb a0.fMessages : Int) = 0 then some 12 else (if (((decide (10 < (qb a0.fMessages : Int))) || (decide (6 < (qb a0.fEnums : Int)))) || (decide (6 < (qb a0.fMethods : Int)))) = true then some 4 else (yz a0).bind fun r11 => (if r11 = 0 then (xa.l22 a0 a0.fMethods 0 ([] : List (List UInt8))) else some r11))))
theorem xa.ok (a0 : GSchema) (r : Int) (h : xa a0 = some r) : ACalls qh 21 [.agg (encGSchema a0)] [] (fun r' _ => r' = .int .i64 r) := by
 refine zf (rs := [.tmp 2]) tok Tryz.func21 rfl Tryz.ntmps21 rfl Tryz.call21 (by simp) ?_;refine zl [(0, .agg (encGSchema a0))] ⟨rfl, trivial⟩ ?_;unfold xa at h
 refine rg tok [1] fun K hK => ?_
 simp only [go_sem, qc, qa, qd, reduceCtorEq, encGSchema];apply hK
 refine za fun Z1 hZ1 => ?_
 apply ze
 refine rc [1, 11] fun K hK => ?_
 obtain ⟨r2, hr2, h⟩ := bind_some h;refine rnN 2 ?_;refine clN rfl rfl rfl (xb.ev a0.fName r2 hr2 _) ?_;refine rnN 2 ?_;refine nkN hK ?_;refine zn (b := (!r2)) rfl (fun hc3 => ?_) (fun hc3 => ?_)
 · rw [if_pos hc3] at h;refine rgN [2] ?_;cases h;exact rtA
 rw [xP hc3] at h;refine rgN [1, 16] ?_;refine zw rfl (fun hc4 => ?_) (fun hc4 => ?_)
 · rw [if_pos hc4] at h;have t5 := eq_true hc4
   refine rg tok [2] fun K hK => ?_
   simp only [go_sem, qc, qa, t5];apply hK
   cases h;exact rtA
 rw [if_neg hc4] at h;have t6 := eq_false hc4
 refine rc [1, 21] fun K hK => ?_
 refine zj tok 5 ?_;simp only [go_sem, qc, qa, qd, t6];refine zh 5 (fun L τ => L = [(1, .op 0 0 0), (31, .bool ((decide (10 < (qb a0.fMessages : Int))) || (decide (6 < (qb a0.fEnums : Int)))))] ∧ τ = [.cells 0 (encGSchema a0)]) ?_ ?_
 · refine yF 26 rfl (fun hg26 => ?_) (fun hg26 => ?_)
   · have t7 := eq_true hg26;refine rnN 5 ?_;refine zb ⟨rfl, _, _, ⟨rfl, rfl⟩, .p t7⟩
   have t8 := eq_false hg26;refine rnN 5 ?_;refine zb ⟨rfl, _, _, ⟨rfl, rfl⟩, .p t8⟩
 rintro _ _ ⟨rfl, rfl⟩;refine rnN 1 ?_;refine zh 5 (fun L τ => L = [(1, .op 0 0 0), (37, .bool (((decide (10 < (qb a0.fMessages : Int))) || (decide (6 < (qb a0.fEnums : Int)))) || (decide (6 < (qb a0.fMethods : Int)))))] ∧ τ = [.cells 0 (encGSchema a0)]) ?_ ?_
 · refine zI (b := ((decide (10 < (qb a0.fMessages : Int))) || (decide (6 < (qb a0.fEnums : Int))))) 32 rfl (fun hg32 => ?_) (fun hg32 => ?_)
   · refine rnN 5 ?_;refine zb ⟨rfl, _, _, ⟨rfl, rfl⟩, .b hg32⟩
   refine rnN 5 ?_;refine zb ⟨rfl, _, _, ⟨rfl, rfl⟩, .b hg32⟩
 rintro _ _ ⟨rfl, rfl⟩;refine rnN 1 ?_;refine nkN hK ?_;refine zn (b := (((decide (10 < (qb a0.fMessages : Int))) || (decide (6 < (qb a0.fEnums : Int)))) || (decide (6 < (qb a0.fMethods : Int))))) rfl (fun hc9 => ?_) (fun hc9 => ?_)
 · rw [if_pos hc9] at h;refine rgN [2] ?_;cases h;exact rtA
 rw [xP hc9] at h;apply zd;apply hZ1
 refine za fun Z10 hZ10 => ?_
 refine rc [1, 3] fun K hK => ?_
 obtain ⟨r11, hr11, h⟩ := bind_some h;refine rnN 1 ?_;refine clN rfl rfl rfl (yz.ev a0 r11 hr11 _) ?_;refine rnN 1 ?_;refine nkN hK ?_;refine rgN [1, 3, 41] ?_;refine zw rfl (fun hc12 => ?_) (fun hc12 => ?_)
 · rw [if_neg hc12] at h;have t13 := eq_false hc12
   refine rg tok [2] fun K hK => ?_
   simp only [go_sem, qc, qa, t13];apply hK
   cases h;exact rtA
 rw [if_pos hc12] at h;have t14 := eq_true hc12;apply zd;apply hZ10
 refine rg tok [1, 4] fun K hK => ?_
 simp only [go_sem, qc, qa, t14];apply hK
 refine wN 4 1 rfl ?_;refine zV (L := [(1, .op 0 0 0), (4, .os true 1 1 0 0 (qb ([] : List (List UInt8))) false)]) (τ := [.cells 0 (encGSchema a0), .cells 0 (qe encS ([] : List (List UInt8)))]) .s ?_
 refine za fun Z15 hZ15 => ?_
 refine rgN [1, 4, 5] ?_;apply ze
 refine xA 0 rfl fun hb22 => ?_
 replace hb22 : qb a0.fMethods ≤ 9223372036854775807 := hb22.2.2.2.1.1;refine zr (fun m L τ => ∃ (p22 q22 : List GMethod) (x18 : Int) (l16 : List (List UInt8)) (v17 : Nat), m = qb q22 ∧ L = [(1, .op 0 0 0), (4, .os true 1 1 v17 0 (qb l16) false), (5, .int .i64 x18)] ∧ τ = [.cells 0 (encGSchema a0), .cells v17 (qe encS l16)] ∧ a0.fMethods = p22 ++ q22 ∧ x18 = (qb p22 : Int) ∧ xa.l22 a0 q22 x18 l16 = some r) _ ⟨[], a0.fMethods, 0, ([] : List (List UInt8)), 0, rfl, rfl, rfl, rfl, rfl, h⟩ .s ?_;rintro m L τ ⟨p22, q22, x18, l16, v17, rfl, rfl, rfl, hE22, hi22, h⟩
 rcases q22 with _ | ⟨y22, q22⟩
 · have hz22 := yq hE22 hi22;simp only [xa.l22] at h
   refine za fun Z23 hZ23 => ?_
   refine rg tok [1, 4, 5, 47] fun K hK => ?_
   simp only [go_sem, qc, qa, qd, hz22];apply hK
   refine zo rfl ?_;apply zy;apply hZ15;refine rgN [2] ?_;cases h;exact rtA
 obtain ⟨hz22, hw22, hx22, hE'22, hi'22⟩ := zX hE22 hi22 hb22;simp only [xa.l22] at h
 refine za fun Z24 hZ24 => ?_
 refine rg tok [1, 4, 5, 47] fun K hK => ?_
 simp only [go_sem, qc, qa, qd, hz22];apply hK
 refine zq rfl ?_;apply zd;apply hZ24
 refine za fun Z25 hZ25 => ?_
 apply ze;have f26 := E24.idxS hx22;have f27 := E24.loadS rfl rfl hx22
 refine rg tok [1, 4, 5, 6] fun K hK => ?_
 simp only [go_sem, qc, qf, qa, qd, encGMethod, f26, f27];apply hK
 refine za fun Z28 hZ28 => ?_
 refine rc [1, 4, 5, 6, 59] fun K hK => ?_
 obtain ⟨r29, hr29, h⟩ := bind_some h;refine rnN 3 ?_;refine clN rfl rfl rfl (yo.ok y22.fName l16 r29 hr29).ld ?_;refine rnN 1 ?_;refine nkN hK ?_;refine zn (b := (!r29)) rfl (fun hc30 => ?_) (fun hc30 => ?_)
 · rw [if_pos hc30] at h;refine rgN [2] ?_;cases h;exact rtA
 rw [xP hc30] at h;apply zd;apply hZ28;obtain ⟨_u31, hu31, h⟩ := bind_some h;have gu31 := yi hu31;have f32 := (zv E98.len l16)
 refine rg tok [1, 4, 5, 6] fun K hK => ?_
 simp only [go_sem, qc, qf, qa, qd, qt, zN, z6, q9, qY, true_and, ue, z8, zO, yj, gu31, f32, yB, ua, qW, AV.one, qU, qA, qj, ql, qn, qE];apply hK
 refine zV (L := [(1, .op 0 0 0), (4, .os true 1 1 (v17 + 1) 0 (qb (l16 ++ [y22.fName])) false), (5, .int .i64 x18), (6, .op 2 0 0)]) (τ := [.cells 0 (encGSchema a0), .cells (v17 + 1) (qe encS (l16 ++ [y22.fName])), .cells 0 [.str y22.fName, .str y22.fIn, .str y22.fOut], .cells 0 [.str y22.fName]]) .s ?_
 refine rc [1, 4, 5, 6, 8] fun K hK => ?_
 obtain ⟨r33, hr33, h⟩ := zS h;refine rnN 3 ?_;refine clN rfl rfl rfl (yh.ev a0 y22.fIn r33 hr33 _) ?_;refine zj tok 6 ?_;simp only [go_sem, qc, qf, qa, qd, encGMessage];refine nkN hK ?_
 refine rc [1, 4, 5, 8, 10] fun K hK => ?_
 obtain ⟨r34, hr34, h⟩ := zS h;refine rnN 3 ?_;refine clN rfl rfl rfl (yh.ev a0 y22.fOut r34 hr34 _) ?_;refine zj tok 6 ?_;simp only [go_sem, qc, qf, qa, qd, encGMessage];refine nkN hK ?_
 refine rc [1, 4, 5, 84] fun K hK => ?_
 refine rnN 3 ?_;refine zh 3 (fun L τ => L = [(1, .op 0 0 0), (4, .os true 1 1 (v17 + 1) 0 (qb (l16 ++ [y22.fName])) false), (5, .int .i64 x18), (84, .bool ((!r33.2) || (!r34.2)))] ∧ τ = [.cells 0 (encGSchema a0), .cells (v17 + 1) (qe encS (l16 ++ [y22.fName])), .cells 0 [.str y22.fName, .str y22.fIn, .str y22.fOut], .cells 0 [.str y22.fName], .cells 0 (encGMessage r33.1), .cells 0 (encGMessage r34.1)]) ?_ ?_
 · refine zI (b := (!r33.2)) 81 rfl (fun hg81 => ?_) (fun hg81 => ?_)
   · refine rnN 3 ?_;refine zb ⟨rfl, _, _, ⟨rfl, rfl⟩, .b hg81⟩
   refine rnN 3 ?_;refine zb ⟨rfl, _, _, ⟨rfl, rfl⟩, .b hg81⟩
 rintro _ _ ⟨rfl, rfl⟩;refine nkN hK ?_;refine zn (b := ((!r33.2) || (!r34.2))) rfl (fun hc35 => ?_) (fun hc35 => ?_)
 · rw [if_pos hc35] at h;refine rgN [2] ?_;cases h;exact rtA
 rw [xP hc35] at h;apply zd;apply hZ25
 refine rgE tok [1, 4, 5] fun K hK => ?_
 simp only [go_sem, qc, qa, hw22];apply hK
 exact ⟨_, _, _, qs q22.length, ⟨p22 ++ [y22], q22, x18 + 1, l16 ++ [y22.fName], v17 + 1, rfl, rfl, rfl, hE'22, hi'22, h⟩, (.t [0, 1] false)⟩
theorem xa.ev (a0 : GSchema) (r : Int) (h : xa a0 = some r) (σ : Store) : ACalls qh 21 [.agg (encGSchema a0)] σ (fun r' σ' => r' = .int .i64 r ∧ σ' = σ) :=
 (xa.ok a0 r h).c σ
def zE.j23 (x4 : Int) (rec8 : Int → List GRaw → Option (List GRaw)) (l16 : List GRaw) (x17 : Int) (rec20 : List GRaw → Int → Option (List GRaw)) (x22 : Bool) : Option (List GRaw) :=
 (if x22 = true then (Zb l16 x17).bind fun y25 => (Zb l16 (IntKind.i64.wrap (x17 - 1))).bind fun y28 => (Zb (setI l16 (IntKind.i64.wrap (x17 - 1)) y25) x17).bind fun y34 => (rec20 (setI (setI l16 (IntKind.i64.wrap (x17 - 1)) y25) x17 y28) (IntKind.i64.wrap (x17 - 1))) else (rec8 (x4 + 1) l16))
def zE.l20 (x4 : Int) (rec8 : Int → List GRaw → Option (List GRaw)) : Nat → List GRaw → Int → Option (List GRaw)
 | 0, _, _ => none
 | k20 + 1, l16, x17 => (if 0 < x17 then (Zb l16 (IntKind.i64.wrap (x17 - 1))).bind fun y39 => (Zb l16 x17).bind fun y42 => (zE.j23 x4 rec8 l16 x17 (zE.l20 x4 rec8 k20) (decide (y42.fTag < y39.fTag))) else (zE.j23 x4 rec8 l16 x17 (zE.l20 x4 rec8 k20) false))
def zE.l8 : List GRaw → Int → List GRaw → Option (List GRaw)
 | [], x4, l2 => some l2
 | y8 :: q8, x4, l2 => (Yf (qb l2 + 1) 40).bind fun _u14 => (zE.l20 x4 (zE.l8 q8) rounds (l2 ++ [y8]) (qb l2 : Int))
def zE (a0 : List GRaw) : Option (List GRaw) :=
 (zE.l8 a0 0 ([] : List GRaw))
theorem zE.own (a0 : List GRaw) (r : List GRaw) (h : zE a0 = some r) : ACalls qh 76 [.ds true (qe encGRaw a0) (qb a0) false] [] (fun r' σ' => r' = .os true 4 0 0 0 (qb r) false ∧ σ' = [.cells 0 (qe encGRaw r)]) := by
 refine ACalls.own0 (by simp only [push_cast]) ?_;refine ZL (rs := [.tmp 2]) tok Tryz.func76 rfl Tryz.ntmps76 rfl Tryz.call76 (by simp) ?_;refine zl [(0, .ds true (qe encGRaw a0) (qb a0) false)] ⟨rfl, trivial⟩ ?_;unfold zE at h;refine rgN [0] ?_;refine rgN [0, 3] ?_;refine wN 3 4 rfl ?_;refine zV (L := [(0, .ds true (qe encGRaw a0) (qb a0) false), (3, .os true 4 0 0 0 (qb ([] : List GRaw)) false)]) (τ := [.cells 0 (qe encGRaw ([] : List GRaw))]) .s ?_
 refine za fun Z1 hZ1 => ?_
 refine rgN [0, 3, 4] ?_;apply ze
 refine yU 0 fun hb8 => ?_
 replace hb8 : qb a0 ≤ 9223372036854775807 := hb8.1;refine zr (fun m L τ => ∃ (p8 q8 : List GRaw) (x4 : Int) (l2 : List GRaw) (v3 : Nat), m = qb q8 ∧ L = [(0, .ds true (qe encGRaw a0) (qb a0) false), (3, .os true 4 0 v3 0 (qb l2) false), (4, .int .i64 x4)] ∧ τ = [.cells v3 (qe encGRaw l2)] ∧ a0 = p8 ++ q8 ∧ x4 = (qb p8 : Int) ∧ zE.l8 q8 x4 l2 = some r) _ ⟨[], a0, 0, ([] : List GRaw), 0, rfl, rfl, rfl, rfl, rfl, h⟩ .s ?_;rintro m L τ ⟨p8, q8, x4, l2, v3, rfl, rfl, rfl, hE8, hi8, h⟩
 rcases q8 with _ | ⟨y8, q8⟩
 · have hz8 := yq hE8 hi8;simp only [zE.l8] at h
   refine za fun Z9 hZ9 => ?_
   refine rg tok [0, 3, 4, 9] fun K hK => ?_
   simp only [go_sem, qc, qa, reduceCtorEq, hz8];apply hK
   refine zo rfl ?_;apply zy;apply hZ1;refine rgN [2] ?_;apply yA;cases h;simp only [ZC, yV, xe, xQ, exists_eq_left', go_sem];refine ⟨0, v3, by simp, ?_, ?_⟩
   · first | rfl | (simp only [go_sem, qc, qf, qa, qd, qt, qG, reduceIte, reduceCtorEq, push_cast, if_true, qB, qn, qD, qw, qC, qO, qS, qQ, qP, qL, qz, zH, encGRaw] <;> rfl)
   first | rfl | (simp only [go_sem, push_cast, qw, zH] <;> rfl)
 obtain ⟨hz8, hw8, hx8, hE'8, hi'8⟩ := zX hE8 hi8 hb8;simp only [zE.l8] at h
 refine za fun Z10 hZ10 => ?_
 refine rg tok [0, 3, 4, 9] fun K hK => ?_
 simp only [go_sem, qc, qa, reduceCtorEq, hz8];apply hK
 refine zq rfl ?_;apply zd;apply hZ10
 refine za fun Z11 hZ11 => ?_
 apply ze;refine rgN [0, 3, 4, 5] ?_;have f12 := E28.idxS hx8;have f13 := E28.loadS rfl rfl hx8;obtain ⟨_u14, hu14, h⟩ := bind_some h;have gu14 := yi hu14;have f15 := (zv E28.len l2)
 refine rg tok [0, 3, 4, 5] fun K hK => ?_
 simp only [go_sem, qc, qf, qa, qd, qt, reduceCtorEq, zN, z6, q9, qY, true_and, ue, z8, zO, yj, encGRaw, f12, f13, gu14, f15, yB, ua, qW, AV.one, qU, qA, qj, ql, qn, qE];apply hK
 refine zV (L := [(0, .ds true (qe encGRaw a0) (qb a0) false), (3, .os true 4 0 (v3 + 1) 0 (qb (l2 ++ [y8])) false), (4, .int .i64 x4), (5, .int .i64 (qb l2 : Int))]) (τ := [.cells (v3 + 1) (qe encGRaw (l2 ++ [y8])), .cells 0 [.int .i64 y8.fTag, .int .i64 y8.fWire, .int .i64 y8.fN, .str y8.fB]]) .s ?_;apply ze;refine zr (fun m L τ => ∃ (k20 : Nat) (l16 : List GRaw) (x17 : Int), m = 0 + k20 ∧ L = [(0, .ds true (qe encGRaw a0) (qb a0) false), (3, .os true 4 0 (v3 + 1) 0 (qb l16) false), (4, .int .i64 x4), (5, .int .i64 x17)] ∧ τ = [.cells (v3 + 1) (qe encGRaw l16)] ∧ zE.l20 x4 (zE.l8 q8) k20 l16 x17 = some r) _ ⟨rounds, l2 ++ [y8], (qb l2 : Int), rfl, rfl, rfl, h⟩ (.t [0] false) ?_;rintro m L τ ⟨k20, l16, x17, rfl, rfl, rfl, h⟩
 rcases k20 with _ | k20
 · cases h
 simp only [zE.l20] at h
 refine za fun Z21 hZ21 => ?_
 refine xr (fun L τ => ∃ (x22 : Bool), L = [(0, .ds true (qe encGRaw a0) (qb a0) false), (3, .os true 4 0 (v3 + 1) 0 (qb l16) false), (4, .int .i64 x4), (5, .int .i64 x17), (36, .bool x22)] ∧ τ = [.cells (v3 + 1) (qe encGRaw l16)] ∧ zE.j23 x4 (zE.l8 q8) l16 x17 (zE.l20 x4 (zE.l8 q8) k20) x22 = some r) ?_ ?_
 · refine rdE [0, 3, 4, 5, 36] fun K hK => ?_
   refine DW.start (T := tab) [.any, .any, .any, .any, .any, .any, .any, .any, .at [], .any, .any, .any, .any, .at [], .any, .any] [] ?_;refine DW.runN tok 3 ?_;simp only [go_sem, qc, qa, reduceCtorEq]
   refine DW.if 23 rfl (fun hg23 => ?_) (fun hg23 => ?_)
   · rw [if_pos hg23] at h;have t38 := eq_true hg23;obtain ⟨y39, hy39, h⟩ := bind_some h;have f40 := E28.idxO hy39;have f41 := E28.rdfO0 hy39;obtain ⟨y42, hy42, h⟩ := bind_some h;have f43 := E28.idxO hy42;have f44 := E28.rdfO0 hy42;refine DW.runN tok 8 ?_;simp only [go_sem, qc, qa, reduceCtorEq, encGRaw, t38, f40, f41];refine DW.runN tok 5 ?_;simp only [go_sem, qc, qa, reduceCtorEq, encGRaw, f43, f44];refine DW.fin tok (by decide +kernel) rfl ?_;simp only [zp, upd, qa, reduceIte, yP, xG];apply hK
     exact ⟨_, _, ⟨decide (y42.fTag < y39.fTag), rfl, rfl, h⟩, .s⟩
   rw [if_neg hg23] at h;have t45 := eq_false hg23;refine DW.runN tok 8 ?_;simp only [go_sem, qc, qa, reduceCtorEq, t45];refine DW.runN tok 5 ?_;simp only [go_sem, qc, qa, reduceCtorEq];refine DW.fin tok (by decide +kernel) rfl ?_;simp only [zp, upd, qa, reduceIte, yP, xG];apply hK
   exact ⟨_, _, ⟨false, rfl, rfl, h⟩, .s⟩
 rintro _ _ ⟨x22, rfl, rfl, h⟩;unfold zE.j23 at h;refine zn (b := x22) rfl (fun hc24 => ?_) (fun hc24 => ?_)
 · rw [if_pos hc24] at h;apply zd;apply hZ21;apply ze;obtain ⟨y25, hy25, h⟩ := bind_some h;have f26 := E28.idxO hy25;have f27 := E28.rdO hy25;obtain ⟨y28, hy28, h⟩ := bind_some h;have f29 := E28.idxO hy28;have f30 := E28.rdO hy28;have f31 := E28.idxO hy28;have f32 := E28.stOc hy28;have f33 := E28.stOr hy28 (y := y25) (cs := [.int .i64 y25.fTag, .int .i64 y25.fWire, .int .i64 y25.fN, .str y25.fB]) rfl;simp only [y1] at f33;obtain ⟨y34, hy34, h⟩ := bind_some h;have f35 := E28.idxO hy34;have f36 := E28.stOc hy34;have f37 := E28.stOr hy34 (y := y28) (cs := [.int .i64 y28.fTag, .int .i64 y28.fWire, .int .i64 y28.fN, .str y28.fB]) rfl;simp only [y1] at f37
   refine rd [0, 3, 4, 5] fun K hK => ?_
   refine DW.start (T := tab) [.any, .any, .any, .any, .any, .any, .any, .any, .at [], .any, .any, .any, .any, .at [], .any, .eff, .any, .eff] [] ?_;refine DW.runN tok 8 ?_;simp only [go_sem, qc, qa, reduceCtorEq, f26];refine DW.runN tok 8 ?_;simp only [go_sem, qc, qa, qd, reduceCtorEq, encGRaw, f27, f29, f30, f32, f33];refine DW.runN tok 2 ?_;simp only [go_sem, qc, qa, qd, reduceCtorEq, f26, f36, f37];refine DW.fin tok (by decide +kernel) rfl ?_;simp only [zp, upd, qa, reduceIte, yP, xG];apply hK
   refine rgE tok [0, 3, 4, 5] fun K hK => ?_
   simp only [go_sem, qc, qa, reduceCtorEq];apply hK
   exact ⟨_, _, _, qs (0 + k20), ⟨k20, setI (setI l16 (IntKind.i64.wrap (x17 - 1)) y25) x17 y28, IntKind.i64.wrap (x17 - 1), rfl, rfl, rfl, h⟩, .s⟩
 rw [xP hc24] at h;apply zy;apply hZ11
 refine rgE tok [0, 3, 4] fun K hK => ?_
 simp only [go_sem, qc, qa, reduceCtorEq, hw8];apply hK
 exact ⟨_, _, _, qs q8.length, ⟨p8 ++ [y8], q8, x4 + 1, l16, v3 + 1, rfl, rfl, rfl, hE'8, hi'8, h⟩, .s⟩
theorem zE.ok (a0 : List GRaw) (r : List GRaw) (h : zE a0 = some r) : ACalls qh 76 [.ds true (qe encGRaw a0) (qb a0) false] [] (fun r' _ => r' = .ds true (qe encGRaw r) (qb r) false) :=
 (zE.own a0 r h).ownData (zv E28.len r) (by simp only [push_cast])
theorem zE.ev (a0 : List GRaw) (r : List GRaw) (h : zE a0 = some r) (σ : Store) : ACalls qh 76 [.ds true (qe encGRaw a0) (qb a0) false] σ (fun r' σ' => r' = .ds true (qe encGRaw r) (qb r) false ∧ σ' = σ) :=
 (zE.ok a0 r h).c σ
def wZ (a0 : GTree) : Bool :=
 ((((((decide (1 ≤ a0.fKind)) && (decide (a0.fKind ≤ 3))) && (decide (a0.fN = 0))) && (decide (a0.fS = []))) && (decide ((qb a0.fEntries : Int) = 0))) && (decide ((qb a0.fRest : Int) = 0)))
theorem wZ.ok (a0 : GTree) (r : Bool) (h : wZ a0 = r) : ACalls qh 86 [.agg (cellsGTree a0)] [] (fun r' _ => r' = .bool r) := by
 refine zf (rs := [.tmp 2]) tok Tryz.func86 rfl Tryz.ntmps86 rfl Tryz.call86 (by simp) ?_;refine zl [(0, .agg (cellsGTree a0))] ⟨rfl, trivial⟩ ?_;unfold wZ at h
 refine rg tok [1] fun K hK => ?_
 simp only [go_sem, qc, qa, qd, reduceCtorEq, cellsGTree];apply hK
 refine rc [2] fun K hK => ?_
 refine rnN 4 ?_;refine zh 4 (fun L τ => L = [(1, .op 0 0 0), (10, .bool ((decide (1 ≤ a0.fKind)) && (decide (a0.fKind ≤ 3))))] ∧ τ = [.cells 0 (cellsGTree a0)]) ?_ ?_
 · refine yF 6 rfl (fun hg6 => ?_) (fun hg6 => ?_)
   · have t1 := eq_true hg6;refine rnN 4 ?_;refine zb ⟨rfl, _, _, ⟨rfl, rfl⟩, .p t1⟩
   have t2 := eq_false hg6;refine rnN 4 ?_;refine zb ⟨rfl, _, _, ⟨rfl, rfl⟩, .p t2⟩
 rintro _ _ ⟨rfl, rfl⟩;refine rnN 1 ?_;refine zh 4 (fun L τ => L = [(1, .op 0 0 0), (15, .bool (((decide (1 ≤ a0.fKind)) && (decide (a0.fKind ≤ 3))) && (decide (a0.fN = 0))))] ∧ τ = [.cells 0 (cellsGTree a0)]) ?_ ?_
 · refine zI (b := ((decide (1 ≤ a0.fKind)) && (decide (a0.fKind ≤ 3)))) 11 rfl (fun hg11 => ?_) (fun hg11 => ?_)
   · refine rnN 4 ?_;refine zb ⟨rfl, _, _, ⟨rfl, rfl⟩, .b hg11⟩
   refine rnN 4 ?_;refine zb ⟨rfl, _, _, ⟨rfl, rfl⟩, .b hg11⟩
 rintro _ _ ⟨rfl, rfl⟩;refine rnN 1 ?_;refine zh 4 (fun L τ => L = [(1, .op 0 0 0), (20, .bool ((((decide (1 ≤ a0.fKind)) && (decide (a0.fKind ≤ 3))) && (decide (a0.fN = 0))) && (decide (a0.fS = []))))] ∧ τ = [.cells 0 (cellsGTree a0)]) ?_ ?_
 · refine zI (b := (((decide (1 ≤ a0.fKind)) && (decide (a0.fKind ≤ 3))) && (decide (a0.fN = 0)))) 16 rfl (fun hg16 => ?_) (fun hg16 => ?_)
   · refine rnN 4 ?_;refine zb ⟨rfl, _, _, ⟨rfl, rfl⟩, .b hg16⟩
   refine rnN 4 ?_;refine zb ⟨rfl, _, _, ⟨rfl, rfl⟩, .b hg16⟩
 rintro _ _ ⟨rfl, rfl⟩;refine rnN 1 ?_;refine zh 5 (fun L τ => L = [(1, .op 0 0 0), (26, .bool (((((decide (1 ≤ a0.fKind)) && (decide (a0.fKind ≤ 3))) && (decide (a0.fN = 0))) && (decide (a0.fS = []))) && (decide ((qb a0.fEntries : Int) = 0))))] ∧ τ = [.cells 0 (cellsGTree a0)]) ?_ ?_
 · refine zI (b := ((((decide (1 ≤ a0.fKind)) && (decide (a0.fKind ≤ 3))) && (decide (a0.fN = 0))) && (decide (a0.fS = [])))) 21 rfl (fun hg21 => ?_) (fun hg21 => ?_)
   · refine rnN 5 ?_;refine zb ⟨rfl, _, _, ⟨rfl, rfl⟩, .b hg21⟩
   refine rnN 5 ?_;refine zb ⟨rfl, _, _, ⟨rfl, rfl⟩, .b hg21⟩
 rintro _ _ ⟨rfl, rfl⟩;refine rnN 1 ?_;refine zh 5 (fun L τ => L = [(32, .bool ((((((decide (1 ≤ a0.fKind)) && (decide (a0.fKind ≤ 3))) && (decide (a0.fN = 0))) && (decide (a0.fS = []))) && (decide ((qb a0.fEntries : Int) = 0))) && (decide ((qb a0.fRest : Int) = 0))))] ∧ τ = [.cells 0 (cellsGTree a0)]) ?_ ?_
 · refine zI (b := (((((decide (1 ≤ a0.fKind)) && (decide (a0.fKind ≤ 3))) && (decide (a0.fN = 0))) && (decide (a0.fS = []))) && (decide ((qb a0.fEntries : Int) = 0)))) 27 rfl (fun hg27 => ?_) (fun hg27 => ?_)
   · refine rnN 5 ?_;refine zb ⟨rfl, _, _, ⟨rfl, rfl⟩, .b hg27⟩
   refine rnN 5 ?_;refine zb ⟨rfl, _, _, ⟨rfl, rfl⟩, .b hg27⟩
 rintro _ _ ⟨rfl, rfl⟩;refine rnN 1 ?_;refine nkN hK ?_;cases h;exact rtA
theorem wZ.ev (a0 : GTree) (r : Bool) (h : wZ a0 = r) (σ : Store) : ACalls qh 86 [.agg (cellsGTree a0)] σ (fun r' σ' => r' = .bool r ∧ σ' = σ) :=
 (wZ.ok a0 r h).c σ
def xd.j3 (x2 : Int) : Option Int :=
 some x2
def xd (a0 : Int) (a1 : Int) : Option Int :=
 (grd (a1 ≠ 0)).bind fun _u1 => (if (a0).tmod a1 < 0 then (xd.j3 (IntKind.i64.wrap ((a0).tmod a1 + a1))) else (xd.j3 ((a0).tmod a1)))
theorem xd.ok (a0 : Int) (a1 : Int) (r : Int) (h : xd a0 a1 = some r) : ACalls qh 22 [.int .i64 a0, .int .i64 a1] [] (fun r' _ => r' = .int .i64 r) := by
 refine zf (rs := [.tmp 4]) tok Tryz.func22 rfl Tryz.ntmps22 rfl Tryz.call22 (by simp) ?_;refine zl [(0, .int .i64 a0), (1, .int .i64 a1)] ⟨rfl, rfl, trivial⟩ ?_;unfold xd at h;refine rgN [0, 1] ?_;obtain ⟨_u1, hu1, h⟩ := bind_some h;have gu1 := wy hu1;have gu1f := eq_false gu1
 refine rg tok [1, 5] fun K hK => ?_
 simp only [go_sem, qc, qa, reduceCtorEq, gu1f];apply hK
 refine xr (fun L τ => ∃ (x2 : Int), L = [(5, .int .i64 x2)] ∧ τ = [] ∧ xd.j3 x2 = some r) ?_ ?_
 · refine rgN [1, 5, 10] ?_;refine zw rfl (fun hc4 => ?_) (fun hc4 => ?_)
   · rw [if_pos hc4] at h;have t5 := eq_true hc4
     refine rgE tok [5] fun K hK => ?_
     simp only [go_sem, qc, qa, t5];apply hK
     exact ⟨_, _, ⟨IntKind.i64.wrap ((a0).tmod a1 + a1), rfl, rfl, h⟩, .s⟩
   rw [if_neg hc4] at h;have t6 := eq_false hc4;apply zd;exact ⟨_, _, ⟨(a0).tmod a1, rfl, rfl, h⟩, .s⟩
 rintro _ _ ⟨x2, rfl, rfl, h⟩;unfold xd.j3 at h;refine rgN [4] ?_;cases h;exact rtA
theorem xd.ev (a0 : Int) (a1 : Int) (r : Int) (h : xd a0 a1 = some r) (σ : Store) : ACalls qh 22 [.int .i64 a0, .int .i64 a1] σ (fun r' σ' => r' = .int .i64 r ∧ σ' = σ) :=
 (xd.ok a0 a1 r h).c σ
def wu (a0 : List Int) (a1 : Int) : Option (Int × Int) :=
 (if (qb a0 : Int) = 0 then some (0, a1) else (grd ((qb a0 : Int) ≠ 0)).bind fun _u5 => (xd (IntKind.i64.wrap ((IntKind.i64.wrap ((IntKind.i64.wrap (a1 + 1)) * 7)) + (IntKind.i64.wrap ((IntKind.i64.wrap (a1 + 1)).tdiv (qb a0 : Int))))) (qb a0 : Int)).bind fun r6 => (Zb a0 r6).bind fun y7 => some (IntKind.i64.wrap ((uj (qx 64 y7 &&& qx 64 4611686018427387903) : Nat) : Int), IntKind.i64.wrap (a1 + 1)))
theorem wu.ok (a0 : List Int) (a1 : Int) (r : Int × Int) (h : wu a0 a1 = some r) : ACalls qh 84 [.ds true (qe encI a0) (qb a0) false, .op 0 0 0] [.cells 0 [.int .i64 a1]] (fun r' σ' => r' = .int .i64 r.1 ∧ σ' = [.cells 0 [.int .i64 r.2]]) := by
 refine YX [0] (rs := [.tmp 4]) tok Tryz.func84 rfl Tryz.ntmps84 rfl Tryz.call84 (by simp) rfl ?_;refine zl [(0, .ds true (qe encI a0) (qb a0) false), (1, .op 0 0 0)] ⟨rfl, rfl, trivial⟩ ?_;unfold wu at h;refine rgN [0, 1] ?_
 refine za fun Z1 hZ1 => ?_
 refine rgN [0, 1, 7] ?_;refine zw rfl (fun hc2 => ?_) (fun hc2 => ?_)
 · rw [if_pos hc2] at h;have t3 := eq_true hc2
   refine rg tok [4] fun K hK => ?_
   simp only [go_sem, qc, qa, reduceCtorEq, t3];apply hK
   apply yA;cases h;simp only [ZC, yV, xe, xQ, exists_eq_left', go_sem];refine ⟨by decide, by simp, ?_, ?_⟩
   · first | rfl | (simp only [go_sem, qc, qf, qa, qd, qt, qG, reduceIte, reduceCtorEq, push_cast, if_true, qB, qn, qD, qw, qC, qO, qS, qQ, qP, qL, qz, zH] <;> rfl)
   first | rfl | (simp only [go_sem, qc, qf, qa, qd, qt, qG, reduceIte, reduceCtorEq, push_cast, if_true, qB, qn, qD, qw, qC, qO, qS, qQ, qP, qL, qz, zH] <;> rfl)
 rw [if_neg hc2] at h;have t4 := eq_false hc2;apply zd;apply hZ1
 refine rg tok [0, 1] fun K hK => ?_
 simp only [go_sem, qc, qf, qa, reduceCtorEq, t4];apply hK
 obtain ⟨_u5, hu5, h⟩ := bind_some h;have gu5 := wy hu5;have gu5f := eq_false gu5;obtain ⟨r6, hr6, h⟩ := bind_some h;obtain ⟨y7, hy7, h⟩ := bind_some h;have f8 := E45.idxS hy7;have f9 := E45.fldS0 (f := 3) rfl rfl hy7
 refine rd [4] fun K hK => ?_
 refine DW.start (T := tab) [.any, .any, .any, .at [], .any, .any, .any, .at [], .any, .at [], .any, .any, .any, .at [], .eff, .any, .at [], .any, .any] [] ?_;refine DW.runN tok 8 ?_;simp only [go_sem, qc, qa, reduceCtorEq];refine DW.runN tok 6 ?_;simp only [go_sem, qc, qa, reduceCtorEq, t4];refine DW.call rfl rfl rfl (xd.ev (IntKind.i64.wrap ((IntKind.i64.wrap ((IntKind.i64.wrap (a1 + 1)) * 7)) + (IntKind.i64.wrap ((IntKind.i64.wrap (a1 + 1)).tdiv (qb a0 : Int))))) (qb a0 : Int) r6 hr6 _) ?_;refine DW.runN tok 4 ?_;simp only [go_sem, qc, qa, reduceCtorEq, encI, f8, f9];refine DW.fin tok (by decide +kernel) rfl ?_;simp only [zp, upd, qa, reduceIte, yP, xG];apply hK
 apply yA;cases h;simp only [ZC, yV, xe, xQ, exists_eq_left', go_sem];refine ⟨by decide, by simp, ?_, ?_⟩
 · first | rfl | (simp only [go_sem, qc, qf, qa, qd, qt, qG, reduceIte, reduceCtorEq, push_cast, if_true, qB, qn, qD, qw, qC, qO, qS, qQ, qP, qL, qz, zH] <;> rfl)
 first | rfl | (simp only [go_sem, qc, qf, qa, qd, qt, qG, reduceIte, reduceCtorEq, push_cast, if_true, qB, qn, qD, qw, qC, qO, qS, qQ, qP, qL, qz, zH] <;> rfl)
def zB.j19 (x6 : Int) (rec11 : Int → List GEntry → Int → Option (GTree × Int)) (m0_16 : Int) (l17 : List GEntry) : Option (GTree × Int) :=
 (rec11 m0_16 l17 (IntKind.i64.wrap (x6 + 1)))
def zB.j46 (x34 : Int) (rec39 : Int → List GTree → Int → Option (GTree × Int)) (m0_43 : Int) (l44 : List GTree) : Option (GTree × Int) :=
 (rec39 m0_43 l44 (IntKind.i64.wrap (x34 + 1)))
def zB.l39 (zU : GSchema → GField → (List Int) → Int → Int → Option (GTree × Int)) (a0 : GSchema) (a2 : List Int) (a4 : Int) (l4 : List GEntry) (x6 : Int) (rec11 : Int → List GEntry → Int → Option (GTree × Int)) (r20 : GField × Bool) (x28 : Int) : Nat → Int → List GTree → Int → Option (GTree × Int)
 | 0, _, _, _ => none
 | k39 + 1, m0_31, l32, x34 => (if x34 < x28 then (zU a0 r20.1 a2 m0_31 a4).bind fun r47 => bnd (if r20.1.fLabel = 1 then bnd (wZ r47.1) fun r48 => !r48 else true) fun c48 => (if c48 = true then (Yf (qb l32 + 1) 80).bind fun _u53 => (zB.j46 x34 (zB.l39 zU a0 a2 a4 l4 x6 rec11 r20 x28 k39) r47.2 (l32 ++ [r47.1])) else (zB.j46 x34 (zB.l39 zU a0 a2 a4 l4 x6 rec11 r20 x28 k39) r47.2 l32)) else (if 0 < (qb l32 : Int) then (Yf (qb l4 + 1) 32).bind fun _u58 => (zB.j19 x6 rec11 m0_31 (l4 ++ [(⟨x6, l32⟩ : GEntry)])) else (zB.j19 x6 rec11 m0_31 l4)))
def zB.j29 (zU : GSchema → GField → (List Int) → Int → Int → Option (GTree × Int)) (a0 : GSchema) (a2 : List Int) (a4 : Int) (l4 : List GEntry) (x6 : Int) (rec11 : Int → List GEntry → Int → Option (GTree × Int)) (r20 : GField × Bool) (m0_27 : Int) (x28 : Int) : Option (GTree × Int) :=
 (zB.l39 zU a0 a2 a4 l4 x6 rec11 r20 x28 rounds m0_27 ([] : List GTree) 0)
def zB.l11 (zU : GSchema → GField → (List Int) → Int → Int → Option (GTree × Int)) (a0 : GSchema) (a2 : List Int) (a4 : Int) (r1 : GMessage × Bool) : Nat → Int → List GEntry → Int → Option (GTree × Int)
 | 0, _, _, _ => none
 | k11 + 1, m0_3, l4, x6 => (if ((decide (x6 ≤ 500)) && (decide (m0_3 < 150))) = true then bnd (yO r1.1 x6) fun r20 => (if (!r20.2) = true then some (true, m0_3) else (wu a2 m0_3).bind fun r22 => some (decide ((r22.1).tmod 3 = 0), r22.2)).bind fun c22 => (if (c22.1 || ((decide (r20.1.fType.fKind = 7)) && (decide (5 ≤ a4)))) = true then (zB.j19 x6 (zB.l11 zU a0 a2 a4 r1 k11) c22.2 l4) else (if r20.1.fLabel = 3 then (wu a2 c22.2).bind fun r63 => (zB.j29 zU a0 a2 a4 l4 x6 (zB.l11 zU a0 a2 a4 r1 k11) r20 r63.2 (IntKind.i64.wrap (1 + ((r63.1).tmod 3)))) else (zB.j29 zU a0 a2 a4 l4 x6 (zB.l11 zU a0 a2 a4 r1 k11) r20 c22.2 1))) else some ((⟨3, 0, [], l4, ([] : List GRaw)⟩ : GTree), m0_3))
def zB.body (xu : GSchema → (List UInt8) → (List Int) → Int → Int → Option (GTree × Int)) (zU : GSchema → GField → (List Int) → Int → Int → Option (GTree × Int)) (a0 : GSchema) (a1 : List UInt8) (a2 : List Int) (a3 : Int) (a4 : Int) : Option (GTree × Int) :=
 bnd (yh a0 a1) fun r1 => (zB.l11 zU a0 a2 a4 r1 rounds a3 ([] : List GEntry) 1)
theorem zB.step (xu : GSchema → (List UInt8) → (List Int) → Int → Int → Option (GTree × Int)) (zU : GSchema → GField → (List Int) → Int → Int → Option (GTree × Int)) (va2 : ∀ (a0 : GSchema) (a1 : List UInt8) (a2 : List Int) (a3 : Int) (a4 : Int) (r : GTree × Int), xu a0 a1 a2 a3 a4 = some r → ACalls qh 48 [.agg (encGSchema a0), .str a1, .ds true (qe encI a2) (qb a2) false, .op 0 0 0, .int .i64 a4] [.cells 0 [.int .i64 a3]] (fun r' σ' => r' = .agg (cellsGTree r.1) ∧ σ' = [.cells 0 [.int .i64 r.2]])) (va1 : ∀ (a0 : GSchema) (a1 : GField) (a2 : List Int) (a3 : Int) (a4 : Int) (r : GTree × Int), zU a0 a1 a2 a3 a4 = some r → ACalls qh 85 [.agg (encGSchema a0), .agg (encGField a1), .ds true (qe encI a2) (qb a2) false, .op 0 0 0, .int .i64 a4] [.cells 0 [.int .i64 a3]] (fun r' σ' => r' = .agg (cellsGTree r.1) ∧ σ' = [.cells 0 [.int .i64 r.2]])) (a0 : GSchema) (a1 : List UInt8) (a2 : List Int) (a3 : Int) (a4 : Int) (r : GTree × Int) (h : zB.body xu zU a0 a1 a2 a3 a4 = some r) : ACalls qh 48 [.agg (encGSchema a0), .str a1, .ds true (qe encI a2) (qb a2) false, .op 0 0 0, .int .i64 a4] [.cells 0 [.int .i64 a3]] (fun r' σ' => r' = .agg (cellsGTree r.1) ∧ σ' = [.cells 0 [.int .i64 r.2]]) := by
 refine YX [0] (rs := [.cell 10 30]) tok Tryz.func48 rfl Tryz.ntmps48 rfl Tryz.call48 (by simp) rfl ?_;refine zl [(0, .agg (encGSchema a0)), (1, .str a1), (2, .ds true (qe encI a2) (qb a2) false), (3, .op 0 0 0), (4, .int .i64 a4)] ⟨rfl, rfl, rfl, rfl, rfl, trivial⟩ ?_;unfold zB.body at h
 refine rg tok [1, 2, 3, 4, 5, 10] fun K hK => ?_
 simp only [go_sem, qc, qa, qd, reduceCtorEq, encGSchema];apply hK
 refine rgN [1, 2, 3, 4, 5, 10, 11] ?_;refine Zr 3 3 2 rfl (by simp) rfl (L := [(1, .str a1), (2, .ds true (qe encI a2) (qb a2) false), (3, .op 0 0 0), (4, .int .i64 a4), (5, .op 1 0 0), (10, .op 2 0 0), (11, .op 3 0 0)]) (τ := [.cells 0 [.int .i64 a3], .cells 0 (encGSchema a0), .cells 0 [.int .i64 0, .int .i64 0, .str [], .ds true [] 0 true, .ds true [] 0 true], .cells 0 [.int .i64 3, .int .i64 0, .str [], .os true 2 4 0 0 (qb ([] : List GEntry)) false, .ds true [] 0 true], .cells 0 (qe encGEntry ([] : List GEntry))]) .s ?_
 refine rc [2, 3, 4, 5, 10, 11, 12] fun K hK => ?_
 obtain ⟨r1, hr1, h⟩ := zS h;refine rnN 2 ?_;refine clN rfl rfl rfl (yh.ev a0 a1 r1 hr1 _) ?_;refine zj tok 6 ?_;simp only [go_sem, qc, qf, qa, qd, encGMessage];refine nkN hK ?_
 refine za fun Z2 hZ2 => ?_
 refine rgN [2, 3, 4, 5, 10, 11, 12, 14] ?_;apply ze;refine zr (fun m L τ => ∃ (k11 : Nat) (m0_3 : Int) (l4 : List GEntry) (x6 : Int) (v5 : Nat), m = 0 + k11 ∧ L = [(2, .ds true (qe encI a2) (qb a2) false), (3, .op 0 0 0), (4, .int .i64 a4), (5, .op 1 0 0), (10, .op 2 0 0), (11, .op 3 0 0), (12, .op 5 0 0), (14, .int .i64 x6)] ∧ τ = [.cells 0 [.int .i64 m0_3], .cells 0 (encGSchema a0), .cells 0 [.int .i64 0, .int .i64 0, .str [], .ds true [] 0 true, .ds true [] 0 true], .cells 0 [.int .i64 3, .int .i64 0, .str [], .os true 2 4 v5 0 (qb l4) false, .ds true [] 0 true], .cells v5 (qe encGEntry l4), .cells 0 (encGMessage r1.1)] ∧ zB.l11 zU a0 a2 a4 r1 k11 m0_3 l4 x6 = some r) _ ⟨rounds, a3, ([] : List GEntry), 1, 0, rfl, rfl, rfl, h⟩ .s ?_;rintro m L τ ⟨k11, m0_3, l4, x6, v5, rfl, rfl, rfl, h⟩
 rcases k11 with _ | k11
 · cases h
 simp only [zB.l11] at h
 refine za fun Z12 hZ12 => ?_
 refine rc [2, 3, 4, 5, 10, 11, 12, 14, 35] fun K hK => ?_
 refine rnN 3 ?_;refine zh 5 (fun L τ => L = [(2, .ds true (qe encI a2) (qb a2) false), (3, .op 0 0 0), (4, .int .i64 a4), (5, .op 1 0 0), (10, .op 2 0 0), (11, .op 3 0 0), (12, .op 5 0 0), (14, .int .i64 x6), (35, .bool ((decide (x6 ≤ 500)) && (decide (m0_3 < 150))))] ∧ τ = [.cells 0 [.int .i64 m0_3], .cells 0 (encGSchema a0), .cells 0 [.int .i64 0, .int .i64 0, .str [], .ds true [] 0 true, .ds true [] 0 true], .cells 0 [.int .i64 3, .int .i64 0, .str [], .os true 2 4 v5 0 (qb l4) false, .ds true [] 0 true], .cells v5 (qe encGEntry l4), .cells 0 (encGMessage r1.1)]) ?_ ?_
 · refine yF 30 rfl (fun hg30 => ?_) (fun hg30 => ?_)
   · have t13 := eq_true hg30;refine rnN 5 ?_;refine zb ⟨rfl, _, _, ⟨rfl, rfl⟩, .p t13⟩
   have t14 := eq_false hg30;refine rnN 5 ?_;refine zb ⟨rfl, _, _, ⟨rfl, rfl⟩, .p t14⟩
 rintro _ _ ⟨rfl, rfl⟩;refine nkN hK ?_;refine zn (b := ((decide (x6 ≤ 500)) && (decide (m0_3 < 150)))) rfl (fun hc15 => ?_) (fun hc15 => ?_)
 · rw [if_pos hc15] at h;apply zd;apply hZ12;refine xr (fun L τ => ∃ (m0_16 : Int) (l17 : List GEntry) (v18 : Nat), L = [(2, .ds true (qe encI a2) (qb a2) false), (3, .op 0 0 0), (4, .int .i64 a4), (5, .op 1 0 0), (10, .op 2 0 0), (11, .op 3 0 0), (12, .op 5 0 0), (14, .int .i64 x6)] ∧ τ = [.cells 0 [.int .i64 m0_16], .cells 0 (encGSchema a0), .cells 0 [.int .i64 0, .int .i64 0, .str [], .ds true [] 0 true, .ds true [] 0 true], .cells 0 [.int .i64 3, .int .i64 0, .str [], .os true 2 4 v18 0 (qb l17) false, .ds true [] 0 true], .cells v18 (qe encGEntry l17), .cells 0 (encGMessage r1.1)] ∧ zB.j19 x6 (zB.l11 zU a0 a2 a4 r1 k11) m0_16 l17 = some r) ?_ ?_
   · apply ze
     refine rc [2, 3, 4, 5, 10, 11, 12, 14, 15, 16] fun K hK => ?_
     obtain ⟨r20, hr20, h⟩ := zS h;refine rnN 2 ?_;refine clN rfl rfl rfl (yO.ev r1.1 x6 r20 hr20 _) ?_;refine zj tok 6 ?_;simp only [go_sem, qc, qf, qa, qd, encGField];refine nkN hK ?_
     refine za fun Z21 hZ21 => ?_
     refine rc [2, 3, 4, 5, 10, 11, 12, 14, 15, 62] fun K hK => ?_
     refine rnN 3 ?_;obtain ⟨c22, hc22, h⟩ := bind_some h;refine zh 6 (fun L τ => L = [(2, .ds true (qe encI a2) (qb a2) false), (3, .op 0 0 0), (4, .int .i64 a4), (5, .op 1 0 0), (10, .op 2 0 0), (11, .op 3 0 0), (12, .op 5 0 0), (14, .int .i64 x6), (15, .op 6 0 0), (52, .bool c22.1)] ∧ τ = [.cells 0 [.int .i64 c22.2], .cells 0 (encGSchema a0), .cells 0 [.int .i64 0, .int .i64 0, .str [], .ds true [] 0 true, .ds true [] 0 true], .cells 0 [.int .i64 3, .int .i64 0, .str [], .os true 2 4 v5 0 (qb l4) false, .ds true [] 0 true], .cells v5 (qe encGEntry l4), .cells 0 (encGMessage r1.1), .cells 0 (encGField r20.1)]) ?_ ?_
     · refine zI (b := (!r20.2)) 46 rfl (fun hg46 => ?_) (fun hg46 => ?_)
       · rw [if_pos hg46] at hc22;refine rnN 6 ?_;cases hc22;refine zb ⟨rfl, _, _, ⟨rfl, rfl⟩, .b hg46⟩
       rw [xP hg46] at hc22;obtain ⟨r23, hr23, hc22⟩ := bind_some hc22;refine rnN 2 ?_;refine clN rfl rfl rfl (@id (ACalls qh 84 [.ds true (qe encI a2) (qb a2) false, .op 0 0 0] [.cells 0 [.int .i64 m0_3], .cells 0 (encGSchema a0), .cells 0 [.int .i64 0, .int .i64 0, .str [], .ds true [] 0 true, .ds true [] 0 true], .cells 0 [.int .i64 3, .int .i64 0, .str [], .os true 2 4 v5 0 (qb l4) false, .ds true [] 0 true], .cells v5 (qe encGEntry l4), .cells 0 (encGMessage r1.1), .cells 0 (encGField r20.1)] (fun r' σ' => r' = .int .i64 r23.1 ∧ σ' = [.cells 0 [.int .i64 r23.2], .cells 0 (encGSchema a0), .cells 0 [.int .i64 0, .int .i64 0, .str [], .ds true [] 0 true, .ds true [] 0 true], .cells 0 [.int .i64 3, .int .i64 0, .str [], .os true 2 4 v5 0 (qb l4) false, .ds true [] 0 true], .cells v5 (qe encGEntry l4), .cells 0 (encGMessage r1.1), .cells 0 (encGField r20.1)])) ((wu.ok a2 m0_3 r23 hr23).i [0])) ?_;refine zj tok 3 ?_;simp only [go_sem, qc, qa, uZ];cases hc22;refine zb ⟨rfl, _, _, ⟨rfl, rfl⟩, .b hg46⟩
     rintro _ _ ⟨rfl, rfl⟩;refine rnN 1 ?_;refine zh 9 (fun L τ => L = [(2, .ds true (qe encI a2) (qb a2) false), (3, .op 0 0 0), (4, .int .i64 a4), (5, .op 1 0 0), (10, .op 2 0 0), (11, .op 3 0 0), (12, .op 5 0 0), (14, .int .i64 x6), (15, .op 6 0 0), (62, .bool (c22.1 || ((decide (r20.1.fType.fKind = 7)) && (decide (5 ≤ a4)))))] ∧ τ = [.cells 0 [.int .i64 c22.2], .cells 0 (encGSchema a0), .cells 0 [.int .i64 0, .int .i64 0, .str [], .ds true [] 0 true, .ds true [] 0 true], .cells 0 [.int .i64 3, .int .i64 0, .str [], .os true 2 4 v5 0 (qb l4) false, .ds true [] 0 true], .cells v5 (qe encGEntry l4), .cells 0 (encGMessage r1.1), .cells 0 (encGField r20.1)]) ?_ ?_
     · refine zI (b := c22.1) 53 rfl (fun hg53 => ?_) (fun hg53 => ?_)
       · refine rnN 9 ?_;refine zb ⟨rfl, _, _, ⟨rfl, rfl⟩, .b hg53⟩
       refine rnN 5 ?_;refine zh 3 (fun L τ => L = [(2, .ds true (qe encI a2) (qb a2) false), (3, .op 0 0 0), (4, .int .i64 a4), (5, .op 1 0 0), (10, .op 2 0 0), (11, .op 3 0 0), (12, .op 5 0 0), (14, .int .i64 x6), (15, .op 6 0 0), (53, .bool false), (61, .bool ((decide (r20.1.fType.fKind = 7)) && (decide (5 ≤ a4))))] ∧ τ = [.cells 0 [.int .i64 c22.2], .cells 0 (encGSchema a0), .cells 0 [.int .i64 0, .int .i64 0, .str [], .ds true [] 0 true, .ds true [] 0 true], .cells 0 [.int .i64 3, .int .i64 0, .str [], .os true 2 4 v5 0 (qb l4) false, .ds true [] 0 true], .cells v5 (qe encGEntry l4), .cells 0 (encGMessage r1.1), .cells 0 (encGField r20.1)]) ?_ ?_
       · refine yF 58 rfl (fun hg58 => ?_) (fun hg58 => ?_)
         · have t24 := eq_true hg58;refine rnN 3 ?_;refine zb ⟨rfl, _, _, ⟨rfl, rfl⟩, .p t24⟩
         have t25 := eq_false hg58;refine rnN 3 ?_;refine zb ⟨rfl, _, _, ⟨rfl, rfl⟩, .p t25⟩
       rintro _ _ ⟨rfl, rfl⟩;refine rnN 1 ?_;refine zb ⟨rfl, _, _, ⟨rfl, rfl⟩, .b hg53⟩
     rintro _ _ ⟨rfl, rfl⟩;refine nkN hK ?_;refine zn (b := (c22.1 || ((decide (r20.1.fType.fKind = 7)) && (decide (5 ≤ a4))))) rfl (fun hc26 => ?_) (fun hc26 => ?_)
     · rw [if_pos hc26] at h;apply zy;exact ⟨_, _, ⟨c22.2, l4, v5, rfl, rfl, h⟩, (.t [0, 1, 2, 3, 4, 5] false)⟩
     rw [xP hc26] at h;apply zd;apply hZ21;refine rgN [2, 3, 4, 5, 10, 11, 12, 14, 15, 17] ?_;refine xr (fun L τ => ∃ (m0_27 : Int) (x28 : Int), L = [(2, .ds true (qe encI a2) (qb a2) false), (3, .op 0 0 0), (4, .int .i64 a4), (5, .op 1 0 0), (10, .op 2 0 0), (11, .op 3 0 0), (12, .op 5 0 0), (14, .int .i64 x6), (15, .op 6 0 0), (17, .int .i64 x28)] ∧ τ = [.cells 0 [.int .i64 m0_27], .cells 0 (encGSchema a0), .cells 0 [.int .i64 0, .int .i64 0, .str [], .ds true [] 0 true, .ds true [] 0 true], .cells 0 [.int .i64 3, .int .i64 0, .str [], .os true 2 4 v5 0 (qb l4) false, .ds true [] 0 true], .cells v5 (qe encGEntry l4), .cells 0 (encGMessage r1.1), .cells 0 (encGField r20.1)] ∧ zB.j29 zU a0 a2 a4 l4 x6 (zB.l11 zU a0 a2 a4 r1 k11) r20 m0_27 x28 = some r) ?_ ?_
     · refine rgN [2, 3, 4, 5, 10, 11, 12, 14, 15, 17, 65] ?_;refine zw rfl (fun hc61 => ?_) (fun hc61 => ?_)
       · rw [if_pos hc61] at h;have t62 := eq_true hc61
         refine rcE [2, 3, 4, 5, 10, 11, 12, 14, 15, 17] fun K hK => ?_
         obtain ⟨r63, hr63, h⟩ := bind_some h;refine zj tok 2 ?_;simp only [go_sem, qc, qa, t62];refine clN rfl rfl rfl (@id (ACalls qh 84 [.ds true (qe encI a2) (qb a2) false, .op 0 0 0] [.cells 0 [.int .i64 c22.2], .cells 0 (encGSchema a0), .cells 0 [.int .i64 0, .int .i64 0, .str [], .ds true [] 0 true, .ds true [] 0 true], .cells 0 [.int .i64 3, .int .i64 0, .str [], .os true 2 4 v5 0 (qb l4) false, .ds true [] 0 true], .cells v5 (qe encGEntry l4), .cells 0 (encGMessage r1.1), .cells 0 (encGField r20.1)] (fun r' σ' => r' = .int .i64 r63.1 ∧ σ' = [.cells 0 [.int .i64 r63.2], .cells 0 (encGSchema a0), .cells 0 [.int .i64 0, .int .i64 0, .str [], .ds true [] 0 true, .ds true [] 0 true], .cells 0 [.int .i64 3, .int .i64 0, .str [], .os true 2 4 v5 0 (qb l4) false, .ds true [] 0 true], .cells v5 (qe encGEntry l4), .cells 0 (encGMessage r1.1), .cells 0 (encGField r20.1)])) ((wu.ok a2 c22.2 r63 hr63).i [0])) ?_;refine zj tok 3 ?_;simp only [go_sem, qc, qa, uZ];refine nkN hK ?_;exact ⟨_, _, ⟨r63.2, IntKind.i64.wrap (1 + ((r63.1).tmod 3)), rfl, rfl, h⟩, .s⟩
       rw [if_neg hc61] at h;have t64 := eq_false hc61;apply zd;exact ⟨_, _, ⟨c22.2, 1, rfl, rfl, h⟩, .s⟩
     rintro _ _ ⟨m0_27, x28, rfl, rfl, h⟩;unfold zB.j29 at h;refine rgN [2, 3, 4, 5, 10, 11, 12, 14, 15, 17, 18] ?_;refine Zr 7 1 5 rfl (by simp) rfl (L := [(2, .ds true (qe encI a2) (qb a2) false), (3, .op 0 0 0), (4, .int .i64 a4), (5, .op 1 0 0), (10, .op 2 0 0), (11, .op 3 0 0), (12, .op 5 0 0), (14, .int .i64 x6), (15, .op 6 0 0), (17, .int .i64 x28), (18, .op 7 0 0)]) (τ := [.cells 0 [.int .i64 m0_27], .cells 0 (encGSchema a0), .cells 0 [.int .i64 0, .int .i64 0, .str [], .ds true [] 0 true, .ds true [] 0 true], .cells 0 [.int .i64 3, .int .i64 0, .str [], .os true 2 4 v5 0 (qb l4) false, .ds true [] 0 true], .cells v5 (qe encGEntry l4), .cells 0 (encGMessage r1.1), .cells 0 (encGField r20.1), .cells 0 [.int .i64 x6, .os true 5 8 0 0 (qb ([] : List GTree)) false], .cells 0 (qe encGTree ([] : List GTree))]) .s ?_
     refine za fun Z30 hZ30 => ?_
     refine rgN [2, 3, 4, 5, 10, 11, 12, 14, 15, 17, 18, 19] ?_;apply ze;refine zr (fun m L τ => ∃ (k39 : Nat) (m0_31 : Int) (l32 : List GTree) (x34 : Int) (v33 : Nat), m = 0 + k39 ∧ L = [(2, .ds true (qe encI a2) (qb a2) false), (3, .op 0 0 0), (4, .int .i64 a4), (5, .op 1 0 0), (10, .op 2 0 0), (11, .op 3 0 0), (12, .op 5 0 0), (14, .int .i64 x6), (15, .op 6 0 0), (17, .int .i64 x28), (18, .op 7 0 0), (19, .int .i64 x34)] ∧ τ = [.cells 0 [.int .i64 m0_31], .cells 0 (encGSchema a0), .cells 0 [.int .i64 0, .int .i64 0, .str [], .ds true [] 0 true, .ds true [] 0 true], .cells 0 [.int .i64 3, .int .i64 0, .str [], .os true 2 4 v5 0 (qb l4) false, .ds true [] 0 true], .cells v5 (qe encGEntry l4), .cells 0 (encGMessage r1.1), .cells 0 (encGField r20.1), .cells 0 [.int .i64 x6, .os true 5 8 v33 0 (qb l32) false], .cells v33 (qe encGTree l32)] ∧ zB.l39 zU a0 a2 a4 l4 x6 (zB.l11 zU a0 a2 a4 r1 k11) r20 x28 k39 m0_31 l32 x34 = some r) _ ⟨rounds, m0_27, ([] : List GTree), 0, 0, rfl, rfl, rfl, h⟩ .s ?_;rintro m L τ ⟨k39, m0_31, l32, x34, v33, rfl, rfl, rfl, h⟩
     rcases k39 with _ | k39
     · cases h
     simp only [zB.l39] at h
     refine za fun Z40 hZ40 => ?_
     refine rgN [2, 3, 4, 5, 10, 11, 12, 14, 15, 17, 18, 19, 75] ?_;refine zw rfl (fun hc41 => ?_) (fun hc41 => ?_)
     · rw [if_pos hc41] at h;have t42 := eq_true hc41;apply zd;apply hZ40;refine xr (fun L τ => ∃ (m0_43 : Int) (l44 : List GTree) (v45 : Nat), L = [(2, .ds true (qe encI a2) (qb a2) false), (3, .op 0 0 0), (4, .int .i64 a4), (5, .op 1 0 0), (10, .op 2 0 0), (11, .op 3 0 0), (12, .op 5 0 0), (14, .int .i64 x6), (15, .op 6 0 0), (17, .int .i64 x28), (18, .op 7 0 0), (19, .int .i64 x34)] ∧ τ = [.cells 0 [.int .i64 m0_43], .cells 0 (encGSchema a0), .cells 0 [.int .i64 0, .int .i64 0, .str [], .ds true [] 0 true, .ds true [] 0 true], .cells 0 [.int .i64 3, .int .i64 0, .str [], .os true 2 4 v5 0 (qb l4) false, .ds true [] 0 true], .cells v5 (qe encGEntry l4), .cells 0 (encGMessage r1.1), .cells 0 (encGField r20.1), .cells 0 [.int .i64 x6, .os true 5 8 v45 0 (qb l44) false], .cells v45 (qe encGTree l44)] ∧ zB.j46 x34 (zB.l39 zU a0 a2 a4 l4 x6 (zB.l11 zU a0 a2 a4 r1 k11) r20 x28 k39) m0_43 l44 = some r) ?_ ?_
       · apply ze
         refine rc [2, 3, 4, 5, 10, 11, 12, 14, 15, 17, 18, 19, 20] fun K hK => ?_
         obtain ⟨r47, hr47, h⟩ := bind_some h;refine zj tok 5 ?_;simp only [go_sem, qc, qf, qa, qd, t42];refine clN rfl rfl rfl (@id (ACalls qh 85 [.agg (encGSchema a0), .agg (encGField r20.1), .ds true (qe encI a2) (qb a2) false, .op 0 0 0, .int .i64 a4] [.cells 0 [.int .i64 m0_31], .cells 0 (encGSchema a0), .cells 0 [.int .i64 0, .int .i64 0, .str [], .ds true [] 0 true, .ds true [] 0 true], .cells 0 [.int .i64 3, .int .i64 0, .str [], .os true 2 4 v5 0 (qb l4) false, .ds true [] 0 true], .cells v5 (qe encGEntry l4), .cells 0 (encGMessage r1.1), .cells 0 (encGField r20.1), .cells 0 [.int .i64 x6, .os true 5 8 v33 0 (qb l32) false], .cells v33 (qe encGTree l32)] (fun r' σ' => r' = .agg (cellsGTree r47.1) ∧ σ' = [.cells 0 [.int .i64 r47.2], .cells 0 (encGSchema a0), .cells 0 [.int .i64 0, .int .i64 0, .str [], .ds true [] 0 true, .ds true [] 0 true], .cells 0 [.int .i64 3, .int .i64 0, .str [], .os true 2 4 v5 0 (qb l4) false, .ds true [] 0 true], .cells v5 (qe encGEntry l4), .cells 0 (encGMessage r1.1), .cells 0 (encGField r20.1), .cells 0 [.int .i64 x6, .os true 5 8 v33 0 (qb l32) false], .cells v33 (qe encGTree l32)])) ((va1 a0 r20.1 a2 m0_31 a4 r47 hr47).i [0])) ?_;refine zj tok 2 ?_;simp only [go_sem, qc, qf, qa, qd, cellsGTree];refine nkN hK ?_
         refine rc [2, 3, 4, 5, 10, 11, 12, 14, 15, 17, 18, 19, 20, 91] fun K hK => ?_
         refine rnN 4 ?_;obtain ⟨c48, hc48, h⟩ := zS h;refine zh 4 (fun L τ => L = [(2, .ds true (qe encI a2) (qb a2) false), (3, .op 0 0 0), (4, .int .i64 a4), (5, .op 1 0 0), (10, .op 2 0 0), (11, .op 3 0 0), (12, .op 5 0 0), (14, .int .i64 x6), (15, .op 6 0 0), (17, .int .i64 x28), (18, .op 7 0 0), (19, .int .i64 x34), (20, .op 9 0 0), (91, .bool c48)] ∧ τ = [.cells 0 [.int .i64 r47.2], .cells 0 (encGSchema a0), .cells 0 [.int .i64 0, .int .i64 0, .str [], .ds true [] 0 true, .ds true [] 0 true], .cells 0 [.int .i64 3, .int .i64 0, .str [], .os true 2 4 v5 0 (qb l4) false, .ds true [] 0 true], .cells v5 (qe encGEntry l4), .cells 0 (encGMessage r1.1), .cells 0 (encGField r20.1), .cells 0 [.int .i64 x6, .os true 5 8 v33 0 (qb l32) false], .cells v33 (qe encGTree l32), .cells 0 (cellsGTree r47.1)]) ?_ ?_
         · refine yF 87 rfl (fun hg87 => ?_) (fun hg87 => ?_)
           · have t49 := eq_false hg87;rw [if_neg hg87] at hc48;refine rnN 4 ?_;subst hc48;refine zb ⟨rfl, _, _, ⟨rfl, rfl⟩, .p t49⟩
           have t50 := eq_true hg87;rw [if_pos hg87] at hc48;obtain ⟨r51, hr51, hc48⟩ := zS hc48;refine rnN 1 ?_;refine clN rfl rfl rfl (wZ.ev r47.1 r51 hr51 _) ?_;refine rnN 2 ?_;subst hc48;refine zb ⟨rfl, _, _, ⟨rfl, rfl⟩, .p t50⟩
         rintro _ _ ⟨rfl, rfl⟩;refine nkN hK ?_;refine zn (b := c48) rfl (fun hc52 => ?_) (fun hc52 => ?_)
         · rw [if_pos hc52] at h;obtain ⟨_u53, hu53, h⟩ := bind_some h;have gu53 := yi hu53;have f54 := (zv E90.len l32)
           refine rgE tok [2, 3, 4, 5, 10, 11, 12, 14, 15, 17, 18, 19] fun K hK => ?_
           simp only [go_sem, qc, qf, qa, qd, qt, zN, z6, q9, qY, true_and, ue, z8, zO, yj, gu53, f54, yB, ua, qW, AV.one, qU, qA, qj, ql, qn, qE];apply hK
           exact ⟨_, _, ⟨r47.2, l32 ++ [r47.1], v33 + 1, rfl, rfl, h⟩, (.t [0, 1, 2, 3, 4, 5, 6, 7, 8] false)⟩
         rw [xP hc52] at h;apply zd;exact ⟨_, _, ⟨r47.2, l32, v33, rfl, rfl, h⟩, (.t [0, 1, 2, 3, 4, 5, 6, 7, 8] false)⟩
       rintro _ _ ⟨m0_43, l44, v45, rfl, rfl, h⟩;unfold zB.j46 at h
       refine rgE tok [2, 3, 4, 5, 10, 11, 12, 14, 15, 17, 18, 19] fun K hK => ?_
       simp only [go_sem, qc, qa];apply hK
       exact ⟨_, _, _, qs (0 + k39), ⟨k39, m0_43, l44, IntKind.i64.wrap (x34 + 1), v45, rfl, rfl, rfl, h⟩, .s⟩
     rw [if_neg hc41] at h;have t55 := eq_false hc41;apply zy;apply hZ30
     refine rg tok [2, 3, 4, 5, 10, 11, 12, 14, 18, 101] fun K hK => ?_
     simp only [go_sem, qc, qa, qd, t55];apply hK
     refine zw rfl (fun hc56 => ?_) (fun hc56 => ?_)
     · rw [if_pos hc56] at h;have t57 := eq_true hc56;obtain ⟨_u58, hu58, h⟩ := bind_some h;have gu58 := yi hu58;have f59 := (zv E27.len l4)
       refine rgE tok [2, 3, 4, 5, 10, 11, 12, 14] fun K hK => ?_
       simp only [go_sem, qc, qf, qa, qd, qt, zN, z6, q9, qY, true_and, ue, z8, zO, yj, t57, gu58, f59, yB, ua, qW, AV.one, qU, qA, qj, ql, qn, qE];apply hK
       exact ⟨_, _, ⟨m0_31, l4 ++ [(⟨x6, l32⟩ : GEntry)], v5 + 1, rfl, rfl, h⟩, (.t [0, 1, 2, 3, 4, 5] false)⟩
     rw [if_neg hc56] at h;have t60 := eq_false hc56;apply zd;exact ⟨_, _, ⟨m0_31, l4, v5, rfl, rfl, h⟩, (.t [0, 1, 2, 3, 4, 5] false)⟩
   rintro _ _ ⟨m0_16, l17, v18, rfl, rfl, h⟩;unfold zB.j19 at h
   refine rgE tok [2, 3, 4, 5, 10, 11, 12, 14] fun K hK => ?_
   simp only [go_sem, qc, qa];apply hK
   exact ⟨_, _, _, qs (0 + k11), ⟨k11, m0_16, l17, IntKind.i64.wrap (x6 + 1), v18, rfl, rfl, rfl, h⟩, .s⟩
 rw [xP hc15] at h;apply zy;apply hZ2;refine rgN [10] ?_;apply yA;cases h;simp only [ZC, yV, xe, xQ, exists_eq_left', go_sem, qf, qd, cellsGTree];refine ⟨by decide, by simp, ?_, ?_⟩
 · first | rfl | (simp only [go_sem, reduceCtorEq, push_cast, if_true, qB, qn, qD, qw, qO, qP, qL, zH] <;> rfl)
 first | rfl | (simp only [go_sem, qc, qf, qa, qd, qt, qG, reduceIte, reduceCtorEq, push_cast, if_true, qB, qn, qD, qw, qC, qO, qS, qQ, qP, qL, qz, zH, cellsGEntry, cellsGTree, yg, yp] <;> rfl)
end
section
set_option maxRecDepth 4000
set_option maxHeartbeats 1000000
open AM
def xz.j16 (xu : GSchema → (List UInt8) → (List Int) → Int → Int → Option (GTree × Int)) (a0 : GSchema) (a1 : GField) (a2 : List Int) (a4 : Int) (r1 : Int × Int) (x15 : Bool) : Option (GTree × Int) :=
 (if x15 = true then (Zb ([0, 1, 2, 4, 6, 7] : List Int) ((r1.1).tmod 6)).bind fun y18 => (grd ((0 : Int) ≤ 0 ∧ 0 ≤ y18 ∧ y18 ≤ (qb ([103, 114, 195, 182, 195, 159, 101] : List UInt8) : Int))).bind fun _u20 => some ((⟨2, 0, YS ([103, 114, 195, 182, 195, 159, 101] : List UInt8) 0 y18, ([] : List GEntry), ([] : List GRaw)⟩ : GTree), r1.2) else (xu a0 a1.fType.fName a2 r1.2 (IntKind.i64.wrap (a4 + 1))).bind fun r22 => some (r22.1, r22.2))
def xz.body (xu : GSchema → (List UInt8) → (List Int) → Int → Int → Option (GTree × Int)) (zU : GSchema → GField → (List Int) → Int → Int → Option (GTree × Int)) (a0 : GSchema) (a1 : GField) (a2 : List Int) (a3 : Int) (a4 : Int) : Option (GTree × Int) :=
 (wu a2 a3).bind fun r1 => (if a1.fType.fKind = 1 then some ((⟨1, IntKind.i64.wrap ((r1.1).tmod 4294967296 - 2147483648), [], ([] : List GEntry), ([] : List GRaw)⟩ : GTree), r1.2) else (if a1.fType.fKind = 2 then some ((⟨1, IntKind.i64.wrap (r1.1 - 2305843009213693952), [], ([] : List GEntry), ([] : List GRaw)⟩ : GTree), r1.2) else (if a1.fType.fKind = 3 then some ((⟨1, (r1.1).tmod 2, [], ([] : List GEntry), ([] : List GRaw)⟩ : GTree), r1.2) else (if a1.fType.fKind = 6 then some ((⟨1, (r1.1).tmod 5, [], ([] : List GEntry), ([] : List GRaw)⟩ : GTree), r1.2) else (if a1.fType.fKind = 4 then (xz.j16 xu a0 a1 a2 a4 r1 (decide (a1.fType.fKind = 4))) else (xz.j16 xu a0 a1 a2 a4 r1 (decide (a1.fType.fKind = 5))))))))
theorem xz.step (xu : GSchema → (List UInt8) → (List Int) → Int → Int → Option (GTree × Int)) (zU : GSchema → GField → (List Int) → Int → Int → Option (GTree × Int)) (va2 : ∀ (a0 : GSchema) (a1 : List UInt8) (a2 : List Int) (a3 : Int) (a4 : Int) (r : GTree × Int), xu a0 a1 a2 a3 a4 = some r → ACalls qh 48 [.agg (encGSchema a0), .str a1, .ds true (qe encI a2) (qb a2) false, .op 0 0 0, .int .i64 a4] [.cells 0 [.int .i64 a3]] (fun r' σ' => r' = .agg (cellsGTree r.1) ∧ σ' = [.cells 0 [.int .i64 r.2]])) (va1 : ∀ (a0 : GSchema) (a1 : GField) (a2 : List Int) (a3 : Int) (a4 : Int) (r : GTree × Int), zU a0 a1 a2 a3 a4 = some r → ACalls qh 85 [.agg (encGSchema a0), .agg (encGField a1), .ds true (qe encI a2) (qb a2) false, .op 0 0 0, .int .i64 a4] [.cells 0 [.int .i64 a3]] (fun r' σ' => r' = .agg (cellsGTree r.1) ∧ σ' = [.cells 0 [.int .i64 r.2]])) (a0 : GSchema) (a1 : GField) (a2 : List Int) (a3 : Int) (a4 : Int) (r : GTree × Int) (h : xz.body xu zU a0 a1 a2 a3 a4 = some r) : ACalls qh 85 [.agg (encGSchema a0), .agg (encGField a1), .ds true (qe encI a2) (qb a2) false, .op 0 0 0, .int .i64 a4] [.cells 0 [.int .i64 a3]] (fun r' σ' => r' = .agg (cellsGTree r.1) ∧ σ' = [.cells 0 [.int .i64 r.2]]) := by
 refine YX [0] (rs := [.cell 10 30]) tok Tryz.func85 rfl Tryz.ntmps85 rfl Tryz.call85 (by simp) rfl ?_;refine zl [(0, .agg (encGSchema a0)), (1, .agg (encGField a1)), (2, .ds true (qe encI a2) (qb a2) false), (3, .op 0 0 0), (4, .int .i64 a4)] ⟨rfl, rfl, rfl, rfl, rfl, trivial⟩ ?_;unfold xz.body at h
 refine rg tok [2, 3, 4, 5, 6, 10] fun K hK => ?_
 simp only [go_sem, qc, qa, qd, reduceCtorEq, encGField, encGSchema];apply hK
 refine rc [2, 3, 4, 5, 6, 10, 11] fun K hK => ?_
 obtain ⟨r1, hr1, h⟩ := bind_some h;refine rnN 2 ?_;refine clN rfl rfl rfl (@id (ACalls qh 84 [.ds true (qe encI a2) (qb a2) false, .op 0 0 0] [.cells 0 [.int .i64 a3], .cells 0 (encGSchema a0), .cells 0 (encGField a1), .cells 0 [.int .i64 0, .int .i64 0, .str [], .ds true [] 0 true, .ds true [] 0 true]] (fun r' σ' => r' = .int .i64 r1.1 ∧ σ' = [.cells 0 [.int .i64 r1.2], .cells 0 (encGSchema a0), .cells 0 (encGField a1), .cells 0 [.int .i64 0, .int .i64 0, .str [], .ds true [] 0 true, .ds true [] 0 true]])) ((wu.ok a2 a3 r1 hr1).i [0])) ?_;refine rnN 1 ?_;refine nkN hK ?_
 refine za fun Z2 hZ2 => ?_
 refine rgN [2, 3, 4, 5, 6, 10, 11, 17] ?_;apply ze;refine rgN [2, 3, 4, 5, 6, 10, 11, 17, 18] ?_;refine zw rfl (fun hc3 => ?_) (fun hc3 => ?_)
 · rw [if_pos hc3] at h;have t4 := eq_true hc3
   refine rg tok [10] fun K hK => ?_
   simp only [go_sem, qc, qf, qa, qd, t4, uZ];apply hK
   apply yA;cases h;simp only [ZC, yV, xe, xQ, exists_eq_left', go_sem, qf, qd, cellsGTree];refine ⟨by decide, by simp, ?_, ?_⟩
   · first | rfl | (simp only [go_sem, qc, qf, qa, qd, qt, qG, reduceIte, reduceCtorEq, push_cast, if_true, qB, qn, qD, qw, qC, qO, qS, qQ, qP, qL, qz, zH, cellsGTree, yp] <;> rfl)
   first | rfl | (simp only [go_sem, qc, qf, qa, qd, qt, qG, reduceIte, reduceCtorEq, push_cast, if_true, qB, qn, qD, qw, qC, qO, qS, qQ, qP, qL, qz, zH, cellsGTree, yp] <;> rfl)
 rw [if_neg hc3] at h;have t5 := eq_false hc3
 refine rg tok [2, 3, 4, 5, 6, 10, 11, 17, 24] fun K hK => ?_
 simp only [go_sem, qc, qa, t5];apply hK
 refine zw rfl (fun hc6 => ?_) (fun hc6 => ?_)
 · rw [if_pos hc6] at h;have t7 := eq_true hc6
   refine rg tok [10] fun K hK => ?_
   simp only [go_sem, qc, qf, qa, qd, t7];apply hK
   apply yA;cases h;simp only [ZC, yV, xe, xQ, exists_eq_left', go_sem, qf, qd, cellsGTree];refine ⟨by decide, by simp, ?_, ?_⟩
   · first | rfl | (simp only [go_sem, qc, qf, qa, qd, qt, qG, reduceIte, reduceCtorEq, push_cast, if_true, qB, qn, qD, qw, qC, qO, qS, qQ, qP, qL, qz, zH, cellsGTree, yp] <;> rfl)
   first | rfl | (simp only [go_sem, qc, qf, qa, qd, qt, qG, reduceIte, reduceCtorEq, push_cast, if_true, qB, qn, qD, qw, qC, qO, qS, qQ, qP, qL, qz, zH, cellsGTree, yp] <;> rfl)
 rw [if_neg hc6] at h;have t8 := eq_false hc6
 refine rg tok [2, 3, 4, 5, 6, 10, 11, 17, 29] fun K hK => ?_
 simp only [go_sem, qc, qa, t8];apply hK
 refine zw rfl (fun hc9 => ?_) (fun hc9 => ?_)
 · rw [if_pos hc9] at h;have t10 := eq_true hc9
   refine rg tok [10] fun K hK => ?_
   simp only [go_sem, qc, qf, qa, qd, t10, uZ];apply hK
   apply yA;cases h;simp only [ZC, yV, xe, xQ, exists_eq_left', go_sem, qf, qd, cellsGTree];refine ⟨by decide, by simp, ?_, ?_⟩
   · first | rfl | (simp only [go_sem, qc, qf, qa, qd, qt, qG, reduceIte, reduceCtorEq, push_cast, if_true, qB, qn, qD, qw, qC, qO, qS, qQ, qP, qL, qz, zH, cellsGTree, yp] <;> rfl)
   first | rfl | (simp only [go_sem, qc, qf, qa, qd, qt, qG, reduceIte, reduceCtorEq, push_cast, if_true, qB, qn, qD, qw, qC, qO, qS, qQ, qP, qL, qz, zH, cellsGTree, yp] <;> rfl)
 rw [if_neg hc9] at h;have t11 := eq_false hc9
 refine rg tok [2, 3, 4, 5, 6, 10, 11, 17, 34] fun K hK => ?_
 simp only [go_sem, qc, qa, t11];apply hK
 refine zw rfl (fun hc12 => ?_) (fun hc12 => ?_)
 · rw [if_pos hc12] at h;have t13 := eq_true hc12
   refine rg tok [10] fun K hK => ?_
   simp only [go_sem, qc, qf, qa, qd, t13, uZ];apply hK
   apply yA;cases h;simp only [ZC, yV, xe, xQ, exists_eq_left', go_sem, qf, qd, cellsGTree];refine ⟨by decide, by simp, ?_, ?_⟩
   · first | rfl | (simp only [go_sem, qc, qf, qa, qd, qt, qG, reduceIte, reduceCtorEq, push_cast, if_true, qB, qn, qD, qw, qC, qO, qS, qQ, qP, qL, qz, zH, cellsGTree, yp] <;> rfl)
   first | rfl | (simp only [go_sem, qc, qf, qa, qd, qt, qG, reduceIte, reduceCtorEq, push_cast, if_true, qB, qn, qD, qw, qC, qO, qS, qQ, qP, qL, qz, zH, cellsGTree, yp] <;> rfl)
 rw [if_neg hc12] at h;have t14 := eq_false hc12;refine xr (fun L τ => ∃ (x15 : Bool), L = [(2, .ds true (qe encI a2) (qb a2) false), (3, .op 0 0 0), (4, .int .i64 a4), (5, .op 1 0 0), (6, .op 2 0 0), (10, .op 3 0 0), (11, .int .i64 r1.1), (39, .bool x15)] ∧ τ = [.cells 0 [.int .i64 r1.2], .cells 0 (encGSchema a0), .cells 0 (encGField a1), .cells 0 [.int .i64 0, .int .i64 0, .str [], .ds true [] 0 true, .ds true [] 0 true]] ∧ xz.j16 xu a0 a1 a2 a4 r1 x15 = some r) ?_ ?_
 · refine rg tok [2, 3, 4, 5, 6, 10, 11, 17, 39] fun K hK => ?_
   simp only [go_sem, qc, qa, t14];apply hK
   refine zw rfl (fun hc23 => ?_) (fun hc23 => ?_)
   · rw [if_pos hc23] at h;have t24 := eq_true hc23;apply zd;exact ⟨_, _, ⟨decide (a1.fType.fKind = 4), rfl, rfl, h⟩, .s⟩
   rw [if_neg hc23] at h;have t25 := eq_false hc23
   refine rgE tok [2, 3, 4, 5, 6, 10, 11, 39] fun K hK => ?_
   simp only [go_sem, qc, qa, t25];apply hK
   exact ⟨_, _, ⟨decide (a1.fType.fKind = 5), rfl, rfl, h⟩, .s⟩
 rintro _ _ ⟨x15, rfl, rfl, h⟩;unfold xz.j16 at h;refine zn (b := x15) rfl (fun hc17 => ?_) (fun hc17 => ?_)
 · rw [if_pos hc17] at h;obtain ⟨y18, hy18, h⟩ := bind_some h;have f19 := (show Xz tab 181 (.agg [.int .i64 0, .int .i64 1, .int .i64 2, .int .i64 4, .int .i64 6, .int .i64 7]) (.int .i64 ((r1.1).tmod 6)) = some (.int .i64 y18) from idx_arr (T := tab) (t := 181) (l := [0, 1, 2, 4, 6, 7]) rfl rfl rfl rfl rfl rfl hy18 .i64);obtain ⟨_u20, hu20, h⟩ := bind_some h;have gu20 := wy hu20;have f21 := str_hi (T := tab) (t := 9) rfl rfl gu20
   refine rg tok [10] fun K hK => ?_
   simp only [go_sem, qc, qf, qa, qd, qt, f19, f21, uZ];apply hK
   apply yA;cases h;simp only [ZC, yV, xe, xQ, exists_eq_left', go_sem, qf, qd, cellsGTree];refine ⟨by decide, by simp, ?_, ?_⟩
   · first | rfl | (simp only [go_sem, qc, qf, qa, qd, qt, qG, reduceIte, reduceCtorEq, push_cast, if_true, qB, qn, qD, qw, qC, qO, qS, qQ, qP, qL, qz, zH, cellsGTree, yp] <;> rfl)
   first | rfl | (simp only [go_sem, qc, qf, qa, qd, qt, qG, reduceIte, reduceCtorEq, push_cast, if_true, qB, qn, qD, qw, qC, qO, qS, qQ, qP, qL, qz, zH, cellsGTree, yp] <;> rfl)
 rw [xP hc17] at h;apply zd;apply hZ2
 refine rc [10] fun K hK => ?_
 obtain ⟨r22, hr22, h⟩ := bind_some h;refine rnN 8 ?_;refine clN rfl rfl rfl (@id (ACalls qh 48 [.agg (encGSchema a0), .str a1.fType.fName, .ds true (qe encI a2) (qb a2) false, .op 0 0 0, .int .i64 (IntKind.i64.wrap (a4 + 1))] [.cells 0 [.int .i64 r1.2], .cells 0 (encGSchema a0), .cells 0 (encGField a1), .cells 0 [.int .i64 0, .int .i64 0, .str [], .ds true [] 0 true, .ds true [] 0 true]] (fun r' σ' => r' = .agg (cellsGTree r22.1) ∧ σ' = [.cells 0 [.int .i64 r22.2], .cells 0 (encGSchema a0), .cells 0 (encGField a1), .cells 0 [.int .i64 0, .int .i64 0, .str [], .ds true [] 0 true, .ds true [] 0 true]])) ((va2 a0 a1.fType.fName a2 r1.2 (IntKind.i64.wrap (a4 + 1)) r22 hr22).i [0])) ?_;refine zj tok 1 ?_;simp only [go_sem, qf, qa, qd, cellsGTree];refine nkN hK ?_;apply yA;cases h;simp only [ZC, yV, xe, xQ, exists_eq_left', go_sem, qf, qd, cellsGTree];refine ⟨by decide, by simp, ?_, ?_⟩
 · first | rfl | (simp only [go_sem, push_cast, qD, qw, qO, qP, qL, zH] <;> rfl)
 first | rfl | (simp only [go_sem, qc, qf, qa, qd, qt, qG, reduceIte, reduceCtorEq, push_cast, if_true, qB, qn, qD, qw, qC, qO, qS, qQ, qP, qL, qz, zH, cellsGTree, yp] <;> rfl)
mutual
def zB : Nat → GSchema → (List UInt8) → (List Int) → Int → Int → Option (GTree × Int)
 | 0, _, _, _, _, _ => none
 | k + 1, a0, a1, a2, a3, a4 => zB.body (zB k) (xz k) a0 a1 a2 a3 a4
def xz : Nat → GSchema → GField → (List Int) → Int → Int → Option (GTree × Int)
 | 0, _, _, _, _, _ => none
 | k + 1, a0, a1, a2, a3, a4 => xz.body (zB k) (xz k) a0 a1 a2 a3 a4
end
theorem zB.all (k : Nat) : (∀ (a0 : GSchema) (a1 : List UInt8) (a2 : List Int) (a3 : Int) (a4 : Int) (r : GTree × Int), zB k a0 a1 a2 a3 a4 = some r → ACalls qh 48 [.agg (encGSchema a0), .str a1, .ds true (qe encI a2) (qb a2) false, .op 0 0 0, .int .i64 a4] [.cells 0 [.int .i64 a3]] (fun r' σ' => r' = .agg (cellsGTree r.1) ∧ σ' = [.cells 0 [.int .i64 r.2]])) ∧ (∀ (a0 : GSchema) (a1 : GField) (a2 : List Int) (a3 : Int) (a4 : Int) (r : GTree × Int), xz k a0 a1 a2 a3 a4 = some r → ACalls qh 85 [.agg (encGSchema a0), .agg (encGField a1), .ds true (qe encI a2) (qb a2) false, .op 0 0 0, .int .i64 a4] [.cells 0 [.int .i64 a3]] (fun r' σ' => r' = .agg (cellsGTree r.1) ∧ σ' = [.cells 0 [.int .i64 r.2]])) := by
 induction k with
 | zero => exact ⟨(fun a0 a1 a2 a3 a4 r h => by simp only [zB] at h; cases h), (fun a0 a1 a2 a3 a4 r h => by simp only [xz] at h; cases h)⟩
 | succ k ih => exact ⟨(fun a0 a1 a2 a3 a4 r h => zB.step _ _ ih.1 ih.2 a0 a1 a2 a3 a4 r (by simpa only [zB] using h)), (fun a0 a1 a2 a3 a4 r h => xz.step _ _ ih.1 ih.2 a0 a1 a2 a3 a4 r (by simpa only [xz] using h))⟩
theorem zB.ok (k : Nat) (a0 : GSchema) (a1 : List UInt8) (a2 : List Int) (a3 : Int) (a4 : Int) (r : GTree × Int) (h : zB k a0 a1 a2 a3 a4 = some r) : ACalls qh 48 [.agg (encGSchema a0), .str a1, .ds true (qe encI a2) (qb a2) false, .op 0 0 0, .int .i64 a4] [.cells 0 [.int .i64 a3]] (fun r' σ' => r' = .agg (cellsGTree r.1) ∧ σ' = [.cells 0 [.int .i64 r.2]]) := (zB.all k).1 a0 a1 a2 a3 a4 r h
def Zj (a0 : GSchema) (a1 : List UInt8) (a2 : List Int) : Option GTree :=
 (zB rounds a0 a1 a2 0 1).bind fun r1 => some r1.1
theorem Zj.ok (a0 : GSchema) (a1 : List UInt8) (a2 : List Int) (r : GTree) (h : Zj a0 a1 a2 = some r) : ACalls qh 23 [.agg (encGSchema a0), .str a1, .ds true (qe encI a2) (qb a2) false] [] (fun r' _ => r' = .agg (cellsGTree r)) := by
 refine zf (rs := [.cell 6 30]) tok Tryz.func23 rfl Tryz.ntmps23 rfl Tryz.call23 (by simp) ?_;refine zl [(0, .agg (encGSchema a0)), (1, .str a1), (2, .ds true (qe encI a2) (qb a2) false)] ⟨rfl, rfl, rfl, trivial⟩ ?_;unfold Zj at h
 refine rg tok [1, 2, 3, 6] fun K hK => ?_
 simp only [go_sem, qc, qa, qd, reduceCtorEq, encGSchema];apply hK
 refine rgN [1, 2, 3, 6, 7] ?_
 refine rc [6] fun K hK => ?_
 obtain ⟨r1, hr1, h⟩ := bind_some h;refine rnN 3 ?_;refine clN rfl rfl rfl (@id (ACalls qh 48 [.agg (encGSchema a0), .str a1, .ds true (qe encI a2) (qb a2) false, .op 2 0 0, .int .i64 1] [.cells 0 (encGSchema a0), .cells 0 [.int .i64 0, .int .i64 0, .str [], .ds true [] 0 true, .ds true [] 0 true], .cells 0 [.int .i64 0]] (fun r' σ' => r' = .agg (cellsGTree r1.1) ∧ σ' = [.cells 0 (encGSchema a0), .cells 0 [.int .i64 0, .int .i64 0, .str [], .ds true [] 0 true, .ds true [] 0 true], .cells 0 [.int .i64 r1.2]])) ((zB.ok rounds a0 a1 a2 0 1 r1 hr1).i [2])) ?_;refine zj tok 1 ?_;simp only [go_sem, qf, qa, qd, cellsGTree];refine nkN hK ?_;cases h;exact rtA
theorem Zj.ev (a0 : GSchema) (a1 : List UInt8) (a2 : List Int) (r : GTree) (h : Zj a0 a1 a2 = some r) (σ : Store) : ACalls qh 23 [.agg (encGSchema a0), .str a1, .ds true (qe encI a2) (qb a2) false] σ (fun r' σ' => r' = .agg (cellsGTree r) ∧ σ' = σ) :=
 (Zj.ok a0 a1 a2 r h).c σ
def zT.l18 (yR : GTree → Int → Option Int) (a1 : Int) (x7 : Int) (rec10 : Int → Int → Option Int) : List GTree → Int → Int → Option Int
 | [], x15, x14 => (rec10 (x7 + 1) x14)
 | y18 :: q18, x15, x14 => (yR y18 (IntKind.i64.wrap (a1 + 1))).bind fun r30 => ((zT.l18 yR a1 x7 rec10 q18) (x15 + 1) (if x14 < r30 then r30 else x14))
def zT.l10 (yR : GTree → Int → Option Int) (a1 : Int) : List GEntry → Int → Int → Option Int
 | [], x7, x6 => some (if 101 < IntKind.i64.wrap (x6 + 1) then 101 else IntKind.i64.wrap (x6 + 1))
 | y10 :: q10, x7, x6 => (zT.l18 yR a1 x7 (zT.l10 yR a1 q10) y10.fTrees 0 x6)
def zT.body (yR : GTree → Int → Option Int) (a0 : GTree) (a1 : Int) : Option Int :=
 (if ((!(decide (a0.fKind = 3))) || (decide (100 < a1))) = true then some 0 else (zT.l10 yR a1 a0.fEntries 0 0))
theorem zT.step (yR : GTree → Int → Option Int) (ih_ref09_depth : ∀ (a0 : GTree) (a1 : Int) (r : Int), yR a0 a1 = some r → ACalls qh 123 [.agg (cellsGTree a0), .int .i64 a1] [] (fun r' _ => r' = .int .i64 r)) (a0 : GTree) (a1 : Int) (r : Int) (h : zT.body yR a0 a1 = some r) : ACalls qh 123 [.agg (cellsGTree a0), .int .i64 a1] [] (fun r' _ => r' = .int .i64 r) := by
 have ev_ref09_depth := fun a0 a1 r h σ => (ih_ref09_depth a0 a1 r h).c σ
 refine zf (rs := [.tmp 4]) tok Tryz.func123 rfl Tryz.ntmps123 rfl Tryz.call123 (by simp) ?_;refine zl [(0, .agg (cellsGTree a0)), (1, .int .i64 a1)] ⟨rfl, rfl, trivial⟩ ?_;unfold zT.body at h
 refine rg tok [1, 2] fun K hK => ?_
 simp only [go_sem, qc, qa, qd, reduceCtorEq, cellsGTree];apply hK
 refine za fun Z1 hZ1 => ?_
 refine rc [1, 2, 14] fun K hK => ?_
 refine rnN 4 ?_;refine zh 3 (fun L τ => L = [(1, .int .i64 a1), (2, .op 0 0 0), (14, .bool ((!(decide (a0.fKind = 3))) || (decide (100 < a1))))] ∧ τ = [.cells 0 (cellsGTree a0)]) ?_ ?_
 · refine yF 11 rfl (fun hg11 => ?_) (fun hg11 => ?_)
   · have t2 := eq_false hg11;refine rnN 3 ?_;refine zb ⟨rfl, _, _, ⟨rfl, rfl⟩, .p t2⟩
   have t3 := eq_true hg11;refine rnN 3 ?_;refine zb ⟨rfl, _, _, ⟨rfl, rfl⟩, .p t3⟩
 rintro _ _ ⟨rfl, rfl⟩;refine nkN hK ?_;refine zn (b := ((!(decide (a0.fKind = 3))) || (decide (100 < a1)))) rfl (fun hc4 => ?_) (fun hc4 => ?_)
 · rw [if_pos hc4] at h;refine rgN [4] ?_;cases h;exact rtA
 rw [xP hc4] at h;apply zd;apply hZ1;refine rgN [1, 2, 5] ?_
 refine za fun Z5 hZ5 => ?_
 refine rgN [1, 2, 5, 6] ?_;apply ze
 refine xA 0 rfl fun hb10 => ?_
 replace hb10 : qb a0.fEntries ≤ 9223372036854775807 := hb10.2.2.2.1.1;refine zr (fun m L τ => ∃ (p10 q10 : List GEntry) (x7 : Int) (x6 : Int), m = qb q10 ∧ L = [(1, .int .i64 a1), (2, .op 0 0 0), (5, .int .i64 x6), (6, .int .i64 x7)] ∧ τ = [.cells 0 (cellsGTree a0)] ∧ a0.fEntries = p10 ++ q10 ∧ x7 = (qb p10 : Int) ∧ zT.l10 yR a1 q10 x7 x6 = some r) _ ⟨[], a0.fEntries, 0, 0, rfl, rfl, rfl, rfl, rfl, h⟩ .s ?_;rintro m L τ ⟨p10, q10, x7, x6, rfl, rfl, rfl, hE10, hi10, h⟩
 rcases q10 with _ | ⟨y10, q10⟩
 · have hz10 := yq hE10 hi10;simp only [zT.l10] at h
   refine za fun Z11 hZ11 => ?_
   refine rg tok [1, 2, 5, 6, 19] fun K hK => ?_
   simp only [go_sem, qc, qa, qd, hz10];apply hK
   refine zo rfl ?_;apply zy;apply hZ5
   refine rg tok [4] fun K hK => ?_
   simp only [go_sem, qc, qa, vaj, foldO, vb0];apply hK
   cases h;exact rtA
 obtain ⟨hz10, hw10, hx10, hE'10, hi'10⟩ := zX hE10 hi10 hb10;simp only [zT.l10] at h
 refine za fun Z12 hZ12 => ?_
 refine rg tok [1, 2, 5, 6, 19] fun K hK => ?_
 simp only [go_sem, qc, qa, qd, hz10];apply hK
 refine zq rfl ?_;apply zd;apply hZ12
 refine za fun Z13 hZ13 => ?_
 apply ze;refine rgN [1, 2, 5, 6, 7] ?_;apply ze
 refine xA 0 rfl fun hb18 => ?_
 replace hb18 := vao hb18.2.2.2.1.2 hx10;rw [yg] at hb18;replace hb18 : qb y10.fTrees ≤ 9223372036854775807 := hb18.2.1.1;refine zr (fun m L τ => ∃ (p18 q18 : List GTree) (x15 : Int) (x14 : Int), m = qb q18 ∧ L = [(1, .int .i64 a1), (2, .op 0 0 0), (5, .int .i64 x14), (6, .int .i64 x7), (7, .int .i64 x15)] ∧ τ = [.cells 0 (cellsGTree a0)] ∧ y10.fTrees = p18 ++ q18 ∧ x15 = (qb p18 : Int) ∧ zT.l18 yR a1 x7 (zT.l10 yR a1 q10) q18 x15 x14 = some r) _ ⟨[], y10.fTrees, 0, x6, rfl, rfl, rfl, rfl, rfl, h⟩ .s ?_;rintro m L τ ⟨p18, q18, x15, x14, rfl, rfl, rfl, hE18, hi18, h⟩
 rcases q18 with _ | ⟨y18, q18⟩
 · have hz18 := yq hE18 hi18;simp only [zT.l18] at h
   refine za fun Z19 hZ19 => ?_
   have f20 := E27.idxS hx10;have f21 := E27.fldS (f := 90) rfl rfl hx10 (o := 1) (by decide)
   refine rg tok [1, 2, 5, 6, 7, 30] fun K hK => ?_
   simp only [go_sem, qc, qa, qd, cellsGEntry, yg, hz18, f20, f21];apply hK
   refine zo rfl ?_;apply zy;apply hZ13
   refine rgE tok [1, 2, 5, 6] fun K hK => ?_
   simp only [go_sem, qc, qa, hw10];apply hK
   exact ⟨_, _, _, qs q10.length, ⟨p10 ++ [y10], q10, x7 + 1, x14, rfl, rfl, rfl, hE'10, hi'10, h⟩, .s⟩
 obtain ⟨hz18, hw18, hx18, hE'18, hi'18⟩ := zX hE18 hi18 hb18;simp only [zT.l18] at h
 refine za fun Z22 hZ22 => ?_
 have f23 := E27.idxS hx10;have f24 := E27.fldS (f := 90) rfl rfl hx10 (o := 1) (by decide)
 refine rg tok [1, 2, 5, 6, 7, 30] fun K hK => ?_
 simp only [go_sem, qc, qa, qd, cellsGEntry, yg, hz18, f23, f24];apply hK
 refine zq rfl ?_;apply zd;apply hZ22
 refine za fun Z25 hZ25 => ?_
 apply ze
 refine rcE [1, 2, 5, 6, 7] fun K hK => ?_
 have f26 := E27.idxS hx10;have f27 := E27.fldS (f := 90) rfl rfl hx10 (o := 1) (by decide);have f28 := E90.idxS hx18;have f29 := E90.loadS rfl rfl hx18;obtain ⟨r30, hr30, h⟩ := bind_some h;refine zj tok 10 ?_;simp only [go_sem, qc, qa, qd, cellsGEntry, cellsGTree, yg, yp, f26, f27, f28, f29];refine rnN 2 ?_;refine clN rfl rfl rfl (ev_ref09_depth y18 (IntKind.i64.wrap (a1 + 1)) r30 hr30 _) ?_;refine zj tok 2 ?_;simp only [go_sem, qc, qa, vaj, foldO, vb1];refine nkN hK ?_;apply hZ25
 refine rgE tok [1, 2, 5, 6, 7] fun K hK => ?_
 simp only [go_sem, qc, qa, hw18];apply hK
 exact ⟨_, _, _, qs q18.length, ⟨p18 ++ [y18], q18, x15 + 1, (if x14 < r30 then r30 else x14), rfl, rfl, rfl, hE'18, hi'18, h⟩, .s⟩
def zT : Nat → GTree → Int → Option Int
 | 0, _, _ => none
 | k + 1, a0, a1 => zT.body (zT k) a0 a1
theorem zT.all (k : Nat) : (∀ (a0 : GTree) (a1 : Int) (r : Int), zT k a0 a1 = some r → ACalls qh 123 [.agg (cellsGTree a0), .int .i64 a1] [] (fun r' _ => r' = .int .i64 r)) := by
 induction k with
 | zero => exact (fun a0 a1 r h => by simp only [zT] at h; cases h)
 | succ k ih => exact (fun a0 a1 r h => zT.step _ ih a0 a1 r (by simpa only [zT] using h))
theorem zT.ev (k : Nat) (a0 : GTree) (a1 : Int) (r : Int) (h : zT k a0 a1 = some r) (σ : Store) : ACalls qh 123 [.agg (cellsGTree a0), .int .i64 a1] σ (fun r' σ' => r' = .int .i64 r ∧ σ' = σ) :=
 ((zT.all k) a0 a1 r h).c σ
def wE (a0 : GTree) : Option Int :=
 (zT rounds a0 0).bind fun r1 => some r1
theorem wE.ok (a0 : GTree) (r : Int) (h : wE a0 = some r) : ACalls qh 87 [.agg (cellsGTree a0)] [] (fun r' _ => r' = .int .i64 r) := by
 refine zf (rs := [.tmp 2]) tok Tryz.func87 rfl Tryz.ntmps87 rfl Tryz.call87 (by simp) ?_;refine zl [(0, .agg (cellsGTree a0))] ⟨rfl, trivial⟩ ?_;unfold wE at h
 refine rg tok [1] fun K hK => ?_
 simp only [go_sem, qc, qa, qd, reduceCtorEq, cellsGTree];apply hK
 refine rc [2] fun K hK => ?_
 obtain ⟨r1, hr1, h⟩ := bind_some h;refine rnN 1 ?_;refine clN rfl rfl rfl (zT.ev rounds a0 0 r1 hr1 _) ?_;refine rnN 1 ?_;refine nkN hK ?_;cases h;exact rtA
theorem wE.ev (a0 : GTree) (r : Int) (h : wE a0 = some r) (σ : Store) : ACalls qh 87 [.agg (cellsGTree a0)] σ (fun r' σ' => r' = .int .i64 r ∧ σ' = σ) :=
 (wE.ok a0 r h).c σ
def wd (a0 : GRaw) : Bool :=
 (if ((decide (a0.fTag < 1)) || (decide (500 < a0.fTag))) = true then false else (if a0.fWire = 0 then decide (a0.fB = []) else (((decide (a0.fWire = 1)) && (decide (a0.fN = 0))) && (decide ((qb a0.fB : Int) ≤ 4096)))))
theorem wd.ok (a0 : GRaw) (r : Bool) (h : wd a0 = r) : ACalls qh 126 [.agg (encGRaw a0)] [] (fun r' _ => r' = .bool r) := by
 refine zf (rs := [.tmp 2]) tok Tryz.func126 rfl Tryz.ntmps126 rfl Tryz.call126 (by simp) ?_;refine zl [(0, .agg (encGRaw a0))] ⟨rfl, trivial⟩ ?_;unfold wd at h
 refine rg tok [1] fun K hK => ?_
 simp only [go_sem, qc, qa, qd, reduceCtorEq, encGRaw];apply hK
 refine za fun Z1 hZ1 => ?_
 refine rc [1, 10] fun K hK => ?_
 refine rnN 4 ?_;refine zh 4 (fun L τ => L = [(1, .op 0 0 0), (10, .bool ((decide (a0.fTag < 1)) || (decide (500 < a0.fTag))))] ∧ τ = [.cells 0 [.int .i64 a0.fTag, .int .i64 a0.fWire, .int .i64 a0.fN, .str a0.fB]]) ?_ ?_
 · refine yF 6 rfl (fun hg6 => ?_) (fun hg6 => ?_)
   · have t2 := eq_true hg6;refine rnN 4 ?_;refine zb ⟨rfl, _, _, ⟨rfl, rfl⟩, .p t2⟩
   have t3 := eq_false hg6;refine rnN 4 ?_;refine zb ⟨rfl, _, _, ⟨rfl, rfl⟩, .p t3⟩
 rintro _ _ ⟨rfl, rfl⟩;refine nkN hK ?_;refine zn (b := ((decide (a0.fTag < 1)) || (decide (500 < a0.fTag)))) rfl (fun hc4 => ?_) (fun hc4 => ?_)
 · rw [if_pos hc4] at h;refine rgN [2] ?_;cases h;exact rtA
 rw [xP hc4] at h;apply zd;apply hZ1
 refine za fun Z5 hZ5 => ?_
 refine rgN [1, 13] ?_;refine zw rfl (fun hc6 => ?_) (fun hc6 => ?_)
 · rw [if_pos hc6] at h;have t7 := eq_true hc6
   refine rg tok [2] fun K hK => ?_
   simp only [go_sem, qc, qa, qd, t7];apply hK
   cases h;exact rtA
 rw [if_neg hc6] at h;have t8 := eq_false hc6;apply zd;apply hZ5
 refine rc [2] fun K hK => ?_
 refine zj tok 4 ?_;simp only [go_sem, qc, qa, qd, t8];refine zh 4 (fun L τ => L = [(1, .op 0 0 0), (24, .bool ((decide (a0.fWire = 1)) && (decide (a0.fN = 0))))] ∧ τ = [.cells 0 [.int .i64 a0.fTag, .int .i64 a0.fWire, .int .i64 a0.fN, .str a0.fB]]) ?_ ?_
 · refine yF 20 rfl (fun hg20 => ?_) (fun hg20 => ?_)
   · have t9 := eq_true hg20;refine rnN 4 ?_;refine zb ⟨rfl, _, _, ⟨rfl, rfl⟩, .p t9⟩
   have t10 := eq_false hg20;refine rnN 4 ?_;refine zb ⟨rfl, _, _, ⟨rfl, rfl⟩, .p t10⟩
 rintro _ _ ⟨rfl, rfl⟩;refine rnN 1 ?_;refine zh 5 (fun L τ => L = [(30, .bool (((decide (a0.fWire = 1)) && (decide (a0.fN = 0))) && (decide ((qb a0.fB : Int) ≤ 4096))))] ∧ τ = [.cells 0 [.int .i64 a0.fTag, .int .i64 a0.fWire, .int .i64 a0.fN, .str a0.fB]]) ?_ ?_
 · refine zI (b := ((decide (a0.fWire = 1)) && (decide (a0.fN = 0)))) 25 rfl (fun hg25 => ?_) (fun hg25 => ?_)
   · refine rnN 5 ?_;refine zb ⟨rfl, _, _, ⟨rfl, rfl⟩, .b hg25⟩
   refine rnN 5 ?_;refine zb ⟨rfl, _, _, ⟨rfl, rfl⟩, .b hg25⟩
 rintro _ _ ⟨rfl, rfl⟩;refine rnN 1 ?_;refine nkN hK ?_;cases h;exact rtA
theorem wd.ev (a0 : GRaw) (r : Bool) (h : wd a0 = r) (σ : Store) : ACalls qh 126 [.agg (encGRaw a0)] σ (fun r' σ' => r' = .bool r ∧ σ' = σ) :=
 (wd.ok a0 r h).c σ
def xZ.l4 (a1 : Int) : List GEntry → Int → Bool
 | [], x2 => false
 | y4 :: q4, x2 => (if y4.fTag = a1 then true else ((xZ.l4 a1 q4) (x2 + 1)))
def xZ (a0 : GTree) (a1 : Int) : Bool :=
 (xZ.l4 a1 a0.fEntries 0)
theorem xZ.ok (a0 : GTree) (a1 : Int) (r : Bool) (h : xZ a0 a1 = r) : ACalls qh 148 [.agg (cellsGTree a0), .int .i64 a1] [] (fun r' _ => r' = .bool r) := by
 refine zf (rs := [.tmp 4]) tok Tryz.func148 rfl Tryz.ntmps148 rfl Tryz.call148 (by simp) ?_;refine zl [(0, .agg (cellsGTree a0)), (1, .int .i64 a1)] ⟨rfl, rfl, trivial⟩ ?_;unfold xZ at h
 refine rg tok [1, 2] fun K hK => ?_
 simp only [go_sem, qc, qa, qd, reduceCtorEq, cellsGTree];apply hK
 refine za fun Z1 hZ1 => ?_
 refine rgN [1, 2, 5] ?_;apply ze
 refine xA 0 rfl fun hb4 => ?_
 replace hb4 : qb a0.fEntries ≤ 9223372036854775807 := hb4.2.2.2.1.1;refine zr (fun m L τ => ∃ (p4 q4 : List GEntry) (x2 : Int), m = qb q4 ∧ L = [(1, .int .i64 a1), (2, .op 0 0 0), (5, .int .i64 x2)] ∧ τ = [.cells 0 (cellsGTree a0)] ∧ a0.fEntries = p4 ++ q4 ∧ x2 = (qb p4 : Int) ∧ xZ.l4 a1 q4 x2 = r) _ ⟨[], a0.fEntries, 0, rfl, rfl, rfl, rfl, rfl, h⟩ .s ?_;rintro m L τ ⟨p4, q4, x2, rfl, rfl, rfl, hE4, hi4, h⟩
 rcases q4 with _ | ⟨y4, q4⟩
 · have hz4 := yq hE4 hi4;simp only [xZ.l4] at h
   refine za fun Z5 hZ5 => ?_
   refine rg tok [1, 2, 5, 10] fun K hK => ?_
   simp only [go_sem, qc, qa, qd, hz4];apply hK
   refine zo rfl ?_;apply zy;apply hZ1;refine rgN [4] ?_;cases h;exact rtA
 obtain ⟨hz4, hw4, hx4, hE'4, hi'4⟩ := zX hE4 hi4 hb4;simp only [xZ.l4] at h
 refine za fun Z6 hZ6 => ?_
 refine rg tok [1, 2, 5, 10] fun K hK => ?_
 simp only [go_sem, qc, qa, qd, hz4];apply hK
 refine zq rfl ?_;apply zd;apply hZ6
 refine za fun Z7 hZ7 => ?_
 apply ze;have f8 := E27.idxS hx4;have f9 := E27.fldS0 (f := 3) rfl rfl hx4
 refine rg tok [1, 2, 5, 20] fun K hK => ?_
 simp only [go_sem, qc, qa, qd, cellsGEntry, yg, f8, f9];apply hK
 refine zw rfl (fun hc10 => ?_) (fun hc10 => ?_)
 · rw [if_pos hc10] at h;have t11 := eq_true hc10
   refine rg tok [4] fun K hK => ?_
   simp only [go_sem, qc, qa, t11];apply hK
   cases h;exact rtA
 rw [if_neg hc10] at h;have t12 := eq_false hc10;apply zd;apply hZ7
 refine rgE tok [1, 2, 5] fun K hK => ?_
 simp only [go_sem, qc, qa, hw4, t12];apply hK
 exact ⟨_, _, _, qs q4.length, ⟨p4 ++ [y4], q4, x2 + 1, rfl, rfl, rfl, hE'4, hi'4, h⟩, .s⟩
theorem xZ.ev (a0 : GTree) (a1 : Int) (r : Bool) (h : xZ a0 a1 = r) (σ : Store) : ACalls qh 148 [.agg (cellsGTree a0), .int .i64 a1] σ (fun r' σ' => r' = .bool r ∧ σ' = σ) :=
 (xZ.ok a0 a1 r h).c σ
def xo.l4 (a0 : List GRaw) : Nat → Int → Option Bool
 | 0, _ => none
 | k4 + 1, x2 => (if x2 < (qb a0 : Int) then (Zb a0 x2).bind fun y9 => (Zb a0 (IntKind.i64.wrap (x2 - 1))).bind fun y12 => (if y9.fTag < y12.fTag then some false else ((xo.l4 a0 k4) (IntKind.i64.wrap (x2 + 1)))) else some true)
def xo (a0 : List GRaw) : Option Bool :=
 (xo.l4 a0 rounds 1)
theorem xo.ok (a0 : List GRaw) (r : Bool) (h : xo a0 = some r) : ACalls qh 149 [.ds true (qe encGRaw a0) (qb a0) false] [] (fun r' _ => r' = .bool r) := by
 refine zf (rs := [.tmp 2]) tok Tryz.func149 rfl Tryz.ntmps149 rfl Tryz.call149 (by simp) ?_;refine zl [(0, .ds true (qe encGRaw a0) (qb a0) false)] ⟨rfl, trivial⟩ ?_;unfold xo at h;refine rgN [0] ?_
 refine za fun Z1 hZ1 => ?_
 refine rgN [0, 3] ?_;apply ze;refine zr (fun m L τ => ∃ (k4 : Nat) (x2 : Int), m = 0 + k4 ∧ L = [(0, .ds true (qe encGRaw a0) (qb a0) false), (3, .int .i64 x2)] ∧ τ = [] ∧ xo.l4 a0 k4 x2 = some r) _ ⟨rounds, 1, rfl, rfl, rfl, h⟩ .s ?_;rintro m L τ ⟨k4, x2, rfl, rfl, rfl, h⟩
 rcases k4 with _ | k4
 · cases h
 simp only [xo.l4] at h
 refine za fun Z5 hZ5 => ?_
 refine rgN [0, 3, 7] ?_;refine zw rfl (fun hc6 => ?_) (fun hc6 => ?_)
 · rw [if_pos hc6] at h;have t7 := eq_true hc6;apply zd;apply hZ5
   refine za fun Z8 hZ8 => ?_
   apply ze;obtain ⟨y9, hy9, h⟩ := bind_some h;have f10 := E28.idxS hy9;have f11 := E28.fldS0 (f := 3) rfl rfl hy9;obtain ⟨y12, hy12, h⟩ := bind_some h;have f13 := E28.idxS hy12;have f14 := E28.fldS0 (f := 3) rfl rfl hy12
   refine rd [0, 3, 21] fun K hK => ?_
   refine DW.start (T := tab) [.any, .any, .any, .any, .at [], .any, .any, .any, .any, .any, .at [], .any] [] ?_;refine DW.runN tok 8 ?_;simp only [go_sem, qc, qa, reduceCtorEq, encGRaw, t7, f10, f11];refine DW.runN tok 4 ?_;simp only [go_sem, qc, qa, reduceCtorEq, encGRaw, f13, f14];refine DW.fin tok (by decide +kernel) rfl ?_;simp only [zp, upd, qa, reduceIte, yP, xG];apply hK
   refine zw rfl (fun hc15 => ?_) (fun hc15 => ?_)
   · rw [if_pos hc15] at h;have t16 := eq_true hc15
     refine rg tok [2] fun K hK => ?_
     simp only [go_sem, qc, qa, reduceCtorEq, t16];apply hK
     cases h;exact rtA
   rw [if_neg hc15] at h;have t17 := eq_false hc15;apply zd;apply hZ8
   refine rgE tok [0, 3] fun K hK => ?_
   simp only [go_sem, qc, qa, reduceCtorEq, t17];apply hK
   exact ⟨_, _, _, qs (0 + k4), ⟨k4, IntKind.i64.wrap (x2 + 1), rfl, rfl, rfl, h⟩, .s⟩
 rw [if_neg hc6] at h;have t18 := eq_false hc6;apply zy;apply hZ1
 refine rg tok [2] fun K hK => ?_
 simp only [go_sem, qc, qa, reduceCtorEq, t18];apply hK
 cases h;exact rtA
theorem xo.ev (a0 : List GRaw) (r : Bool) (h : xo a0 = some r) (σ : Store) : ACalls qh 149 [.ds true (qe encGRaw a0) (qb a0) false] σ (fun r' σ' => r' = .bool r ∧ σ' = σ) :=
 (xo.ok a0 r h).c σ
def yL.j10 (x2 : Int) (rec4 : Int → Option Bool) (x9 : Bool) : Option Bool :=
 (if x9 = true then some false else (rec4 (x2 + 1)))
def yL.l4 (a0 : GTree) : List GRaw → Int → Option Bool
 | [], x2 => (xo a0.fRest).bind fun r6 => some r6
 | y4 :: q4, x2 => bnd (wd y4) fun r14 => (if (!r14) = true then (yL.j10 x2 (yL.l4 a0 q4) true) else bnd (xZ a0 y4.fTag) fun r17 => (yL.j10 x2 (yL.l4 a0 q4) r17))
def yL (a0 : GTree) : Option Bool :=
 (yL.l4 a0 a0.fRest 0)
theorem yL.ok (a0 : GTree) (r : Bool) (h : yL a0 = some r) : ACalls qh 125 [.agg (cellsGTree a0)] [] (fun r' _ => r' = .bool r) := by
 refine zf (rs := [.tmp 2]) tok Tryz.func125 rfl Tryz.ntmps125 rfl Tryz.call125 (by simp) ?_;refine zl [(0, .agg (cellsGTree a0))] ⟨rfl, trivial⟩ ?_;unfold yL at h
 refine rg tok [1] fun K hK => ?_
 simp only [go_sem, qc, qa, qd, reduceCtorEq, cellsGTree];apply hK
 refine za fun Z1 hZ1 => ?_
 refine rgN [1, 3] ?_;apply ze
 refine xA 0 rfl fun hb4 => ?_
 replace hb4 : qb a0.fRest ≤ 9223372036854775807 := hb4.2.2.2.2.1.1;refine zr (fun m L τ => ∃ (p4 q4 : List GRaw) (x2 : Int), m = qb q4 ∧ L = [(1, .op 0 0 0), (3, .int .i64 x2)] ∧ τ = [.cells 0 (cellsGTree a0)] ∧ a0.fRest = p4 ++ q4 ∧ x2 = (qb p4 : Int) ∧ yL.l4 a0 q4 x2 = some r) _ ⟨[], a0.fRest, 0, rfl, rfl, rfl, rfl, rfl, h⟩ .s ?_;rintro m L τ ⟨p4, q4, x2, rfl, rfl, rfl, hE4, hi4, h⟩
 rcases q4 with _ | ⟨y4, q4⟩
 · have hz4 := yq hE4 hi4;simp only [yL.l4] at h
   refine za fun Z5 hZ5 => ?_
   refine rg tok [1, 3, 8] fun K hK => ?_
   simp only [go_sem, qc, qa, qd, hz4];apply hK
   refine zo rfl ?_;apply zy;apply hZ1
   refine rc [2] fun K hK => ?_
   obtain ⟨r6, hr6, h⟩ := bind_some h;refine rnN 2 ?_;refine clN rfl rfl rfl (xo.ev a0.fRest r6 hr6 _) ?_;refine rnN 1 ?_;refine nkN hK ?_;cases h;exact rtA
 obtain ⟨hz4, hw4, hx4, hE'4, hi'4⟩ := zX hE4 hi4 hb4;simp only [yL.l4] at h
 refine za fun Z7 hZ7 => ?_
 refine rg tok [1, 3, 8] fun K hK => ?_
 simp only [go_sem, qc, qa, qd, hz4];apply hK
 refine zq rfl ?_;apply zd;apply hZ7
 refine za fun Z8 hZ8 => ?_
 apply ze;refine xr (fun L τ => ∃ (x9 : Bool), L = [(1, .op 0 0 0), (3, .int .i64 x2), (27, .bool x9)] ∧ τ = [.cells 0 (cellsGTree a0)] ∧ yL.j10 x2 (yL.l4 a0 q4) x9 = some r) ?_ ?_
 · refine rdE [1, 3, 27] fun K hK => ?_
   refine DW.start (T := tab) [.any, .at [], .any, .any, .at [], .eff, .any, .any, .at [], .any, .at [], .any, .any, .any, .at [], .eff, .any] [] ?_;have f12 := E28.idxS hx4;have f13 := E28.loadS rfl rfl hx4;obtain ⟨r14, hr14, h⟩ := zS h;refine DW.runN tok 5 ?_;simp only [go_sem, qc, qa, qd, encGRaw, f12, f13];refine DW.call rfl rfl rfl (wd.ev y4 r14 hr14 _) ?_;refine DW.runN tok 2 ?_;simp only [go_sem, qc, qa];refine DW.at (b := (!r14)) 18 rfl (fun hg18 => ?_) (fun hg18 => ?_)
   · rw [if_pos hg18] at h;refine DW.runN tok 8 ?_;simp only [go_sem, qc, qa];refine DW.runN tok 1 ?_;simp only [go_sem, qc, qa];refine DW.fin tok (by decide +kernel) rfl ?_;simp only [zp, upd, qa, reduceIte, yP, xG];apply hK
     exact ⟨_, _, ⟨true, rfl, rfl, h⟩, .s⟩
   rw [xP hg18] at h;have f15 := E28.idxS hx4;have f16 := E28.fldS0 (f := 3) rfl rfl hx4;obtain ⟨r17, hr17, h⟩ := zS h;refine DW.runN tok 7 ?_;simp only [go_sem, qc, qf, qa, qd, encGRaw, f15, f16];refine DW.call rfl rfl rfl (xZ.ev a0 y4.fTag r17 hr17 _) ?_;refine DW.runN tok 1 ?_;simp only [go_sem, qc, qa];refine DW.fin tok (by decide +kernel) rfl ?_;simp only [zp, upd, qa, reduceIte, yP, xG];apply hK
   exact ⟨_, _, ⟨r17, rfl, rfl, h⟩, .s⟩
 rintro _ _ ⟨x9, rfl, rfl, h⟩;unfold yL.j10 at h;refine zn (b := x9) rfl (fun hc11 => ?_) (fun hc11 => ?_)
 · rw [if_pos hc11] at h;refine rgN [2] ?_;cases h;exact rtA
 rw [xP hc11] at h;apply zd;apply hZ8
 refine rgE tok [1, 3] fun K hK => ?_
 simp only [go_sem, qc, qa, hw4];apply hK
 exact ⟨_, _, _, qs q4.length, ⟨p4 ++ [y4], q4, x2 + 1, rfl, rfl, rfl, hE'4, hi'4, h⟩, .s⟩
theorem yL.ev (a0 : GTree) (r : Bool) (h : yL a0 = some r) (σ : Store) : ACalls qh 125 [.agg (cellsGTree a0)] σ (fun r' σ' => r' = .bool r ∧ σ' = σ) :=
 (yL.ok a0 r h).c σ
def yN.body (yb : GTree → Option Bool) (xE : (List GEntry) → Option Bool) (a0 : GTree) : Option Bool :=
 (if a0.fKind = 1 then some (((decide (a0.fS = [])) && (decide ((qb a0.fEntries : Int) = 0))) && (decide ((qb a0.fRest : Int) = 0))) else (if a0.fKind = 2 then some (((decide (a0.fN = 0)) && (decide ((qb a0.fEntries : Int) = 0))) && (decide ((qb a0.fRest : Int) = 0))) else (if a0.fKind = 3 then (if ((decide (a0.fN = 0)) && (decide (a0.fS = []))) = true then (xE a0.fEntries).bind fun r16 => some r16 else some false).bind fun c16 => (if c16 = true then (yL a0).bind fun r18 => some r18 else some false).bind fun c18 => some c18 else some false)))
theorem yN.step (yb : GTree → Option Bool) (xE : (List GEntry) → Option Bool) (Yw : ∀ (a0 : GTree) (r : Bool), yb a0 = some r → ACalls qh 88 [.agg (cellsGTree a0)] [] (fun r' _ => r' = .bool r)) (ZW : ∀ (a0 : List GEntry) (r : Bool), xE a0 = some r → ACalls qh 124 [.ds true (qe encGEntry a0) (qb a0) false] [] (fun r' _ => r' = .bool r)) (a0 : GTree) (r : Bool) (h : yN.body yb xE a0 = some r) : ACalls qh 88 [.agg (cellsGTree a0)] [] (fun r' _ => r' = .bool r) := by
 have ev_ref09_check := fun a0 r h σ => (Yw a0 r h).c σ
 have ev_ref09_entries := fun a0 r h σ => (ZW a0 r h).c σ
 refine zf (rs := [.tmp 2]) tok Tryz.func88 rfl Tryz.ntmps88 rfl Tryz.call88 (by simp) ?_;refine zl [(0, .agg (cellsGTree a0))] ⟨rfl, trivial⟩ ?_;unfold yN.body at h
 refine rg tok [1] fun K hK => ?_
 simp only [go_sem, qc, qa, qd, reduceCtorEq, cellsGTree];apply hK
 refine za fun Z1 hZ1 => ?_
 refine rgN [1, 4] ?_;apply ze;refine rgN [1, 4, 5] ?_;refine zw rfl (fun hc2 => ?_) (fun hc2 => ?_)
 · rw [if_pos hc2] at h;have t3 := eq_true hc2
   refine rc [2] fun K hK => ?_
   refine zj tok 4 ?_;simp only [go_sem, qc, qa, qd, t3];refine zh 5 (fun L τ => L = [(1, .op 0 0 0), (15, .bool ((decide (a0.fS = [])) && (decide ((qb a0.fEntries : Int) = 0))))] ∧ τ = [.cells 0 (cellsGTree a0)]) ?_ ?_
   · refine yF 10 rfl (fun hg10 => ?_) (fun hg10 => ?_)
     · have t4 := eq_true hg10;refine rnN 5 ?_;refine zb ⟨rfl, _, _, ⟨rfl, rfl⟩, .p t4⟩
     have t5 := eq_false hg10;refine rnN 5 ?_;refine zb ⟨rfl, _, _, ⟨rfl, rfl⟩, .p t5⟩
   rintro _ _ ⟨rfl, rfl⟩;refine rnN 1 ?_;refine zh 5 (fun L τ => L = [(21, .bool (((decide (a0.fS = [])) && (decide ((qb a0.fEntries : Int) = 0))) && (decide ((qb a0.fRest : Int) = 0))))] ∧ τ = [.cells 0 (cellsGTree a0)]) ?_ ?_
   · refine zI (b := ((decide (a0.fS = [])) && (decide ((qb a0.fEntries : Int) = 0)))) 16 rfl (fun hg16 => ?_) (fun hg16 => ?_)
     · refine rnN 5 ?_;refine zb ⟨rfl, _, _, ⟨rfl, rfl⟩, .b hg16⟩
     refine rnN 5 ?_;refine zb ⟨rfl, _, _, ⟨rfl, rfl⟩, .b hg16⟩
   rintro _ _ ⟨rfl, rfl⟩;refine rnN 1 ?_;refine nkN hK ?_;cases h;exact rtA
 rw [if_neg hc2] at h;have t6 := eq_false hc2
 refine rg tok [1, 4, 22] fun K hK => ?_
 simp only [go_sem, qc, qa, t6];apply hK
 refine zw rfl (fun hc7 => ?_) (fun hc7 => ?_)
 · rw [if_pos hc7] at h;have t8 := eq_true hc7
   refine rc [2] fun K hK => ?_
   refine zj tok 4 ?_;simp only [go_sem, qc, qa, qd, t8];refine zh 5 (fun L τ => L = [(1, .op 0 0 0), (32, .bool ((decide (a0.fN = 0)) && (decide ((qb a0.fEntries : Int) = 0))))] ∧ τ = [.cells 0 (cellsGTree a0)]) ?_ ?_
   · refine yF 27 rfl (fun hg27 => ?_) (fun hg27 => ?_)
     · have t9 := eq_true hg27;refine rnN 5 ?_;refine zb ⟨rfl, _, _, ⟨rfl, rfl⟩, .p t9⟩
     have t10 := eq_false hg27;refine rnN 5 ?_;refine zb ⟨rfl, _, _, ⟨rfl, rfl⟩, .p t10⟩
   rintro _ _ ⟨rfl, rfl⟩;refine rnN 1 ?_;refine zh 5 (fun L τ => L = [(38, .bool (((decide (a0.fN = 0)) && (decide ((qb a0.fEntries : Int) = 0))) && (decide ((qb a0.fRest : Int) = 0))))] ∧ τ = [.cells 0 (cellsGTree a0)]) ?_ ?_
   · refine zI (b := ((decide (a0.fN = 0)) && (decide ((qb a0.fEntries : Int) = 0)))) 33 rfl (fun hg33 => ?_) (fun hg33 => ?_)
     · refine rnN 5 ?_;refine zb ⟨rfl, _, _, ⟨rfl, rfl⟩, .b hg33⟩
     refine rnN 5 ?_;refine zb ⟨rfl, _, _, ⟨rfl, rfl⟩, .b hg33⟩
   rintro _ _ ⟨rfl, rfl⟩;refine rnN 1 ?_;refine nkN hK ?_;cases h;exact rtA
 rw [if_neg hc7] at h;have t11 := eq_false hc7
 refine rg tok [1, 39] fun K hK => ?_
 simp only [go_sem, qc, qa, t11];apply hK
 refine zw rfl (fun hc12 => ?_) (fun hc12 => ?_)
 · rw [if_pos hc12] at h;have t13 := eq_true hc12
   refine rc [2] fun K hK => ?_
   refine zj tok 4 ?_;simp only [go_sem, qc, qa, qd, t13];refine zh 4 (fun L τ => L = [(1, .op 0 0 0), (48, .bool ((decide (a0.fN = 0)) && (decide (a0.fS = []))))] ∧ τ = [.cells 0 (cellsGTree a0)]) ?_ ?_
   · refine yF 44 rfl (fun hg44 => ?_) (fun hg44 => ?_)
     · have t14 := eq_true hg44;refine rnN 4 ?_;refine zb ⟨rfl, _, _, ⟨rfl, rfl⟩, .p t14⟩
     have t15 := eq_false hg44;refine rnN 4 ?_;refine zb ⟨rfl, _, _, ⟨rfl, rfl⟩, .p t15⟩
   rintro _ _ ⟨rfl, rfl⟩;refine rnN 1 ?_;obtain ⟨c16, hc16, h⟩ := bind_some h;refine zh 4 (fun L τ => L = [(1, .op 0 0 0), (53, .bool c16)] ∧ τ = [.cells 0 (cellsGTree a0)]) ?_ ?_
   · refine zI (b := ((decide (a0.fN = 0)) && (decide (a0.fS = [])))) 49 rfl (fun hg49 => ?_) (fun hg49 => ?_)
     · rw [if_pos hg49] at hc16;obtain ⟨r17, hr17, hc16⟩ := bind_some hc16;refine rnN 2 ?_;refine clN rfl rfl rfl (ev_ref09_entries a0.fEntries r17 hr17 _) ?_;refine rnN 1 ?_;cases hc16;refine zb ⟨rfl, _, _, ⟨rfl, rfl⟩, .b hg49⟩
     rw [xP hg49] at hc16;refine rnN 4 ?_;cases hc16;refine zb ⟨rfl, _, _, ⟨rfl, rfl⟩, .b hg49⟩
   rintro _ _ ⟨rfl, rfl⟩;refine rnN 1 ?_;obtain ⟨c18, hc18, h⟩ := bind_some h;refine zh 3 (fun L τ => L = [(57, .bool c18)] ∧ τ = [.cells 0 (cellsGTree a0)]) ?_ ?_
   · refine zI (b := c16) 54 rfl (fun hg54 => ?_) (fun hg54 => ?_)
     · rw [if_pos hg54] at hc18;obtain ⟨r19, hr19, hc18⟩ := bind_some hc18;refine rnN 1 ?_;refine clN rfl rfl rfl (yL.ev a0 r19 hr19 _) ?_;refine rnN 1 ?_;cases hc18;refine zb ⟨rfl, _, _, ⟨rfl, rfl⟩, .b hg54⟩
     rw [xP hg54] at hc18;refine rnN 3 ?_;cases hc18;refine zb ⟨rfl, _, _, ⟨rfl, rfl⟩, .b hg54⟩
   rintro _ _ ⟨rfl, rfl⟩;refine rnN 1 ?_;refine nkN hK ?_;cases h;exact rtA
 rw [if_neg hc12] at h;have t20 := eq_false hc12;apply zd;apply hZ1
 refine rg tok [2] fun K hK => ?_
 simp only [go_sem, qc, qa, t20];apply hK
 cases h;exact rtA
end
section
set_option maxRecDepth 4000
set_option maxHeartbeats 1000000
open AM
def zA.j23 (x16 : Int) (rec18 : Int → Option Bool) (x22 : Bool) : Option Bool :=
 (if x22 = true then some false else (rec18 (x16 + 1)))
def zA.l18 (yb : GTree → Option Bool) (x3 : Int) (rec6 : Int → Int → Option Bool) (y6 : GEntry) : List GTree → Int → Option Bool
 | [], x16 => (rec6 (x3 + 1) y6.fTag)
 | y18 :: q18, x16 => (Zb y6.fTrees 0).bind fun y27 => (if y18.fKind = y27.fKind then (yb y18).bind fun r34 => (zA.j23 x16 (zA.l18 yb x3 rec6 y6 q18) (!r34)) else (zA.j23 x16 (zA.l18 yb x3 rec6 y6 q18) true))
def zA.l6 (yb : GTree → Option Bool) : List GEntry → Int → Int → Option Bool
 | [], x3, x2 => some true
 | y6 :: q6, x3, x2 => (if ((((decide (y6.fTag ≤ x2)) || (decide (500 < y6.fTag))) || (decide ((qb y6.fTrees : Int) < 1))) || (decide (64 < (qb y6.fTrees : Int)))) = true then some false else (zA.l18 yb x3 (zA.l6 yb q6) y6 y6.fTrees 0))
def zA.body (yb : GTree → Option Bool) (xE : (List GEntry) → Option Bool) (a0 : List GEntry) : Option Bool :=
 (zA.l6 yb a0 0 0)
theorem zA.step (yb : GTree → Option Bool) (xE : (List GEntry) → Option Bool) (Yw : ∀ (a0 : GTree) (r : Bool), yb a0 = some r → ACalls qh 88 [.agg (cellsGTree a0)] [] (fun r' _ => r' = .bool r)) (ZW : ∀ (a0 : List GEntry) (r : Bool), xE a0 = some r → ACalls qh 124 [.ds true (qe encGEntry a0) (qb a0) false] [] (fun r' _ => r' = .bool r)) (a0 : List GEntry) (r : Bool) (h : zA.body yb xE a0 = some r) : ACalls qh 124 [.ds true (qe encGEntry a0) (qb a0) false] [] (fun r' _ => r' = .bool r) := by
 have ev_ref09_check := fun a0 r h σ => (Yw a0 r h).c σ
 have ev_ref09_entries := fun a0 r h σ => (ZW a0 r h).c σ
 refine zf (rs := [.tmp 2]) tok Tryz.func124 rfl Tryz.ntmps124 rfl Tryz.call124 (by simp) ?_;refine zl [(0, .ds true (qe encGEntry a0) (qb a0) false)] ⟨rfl, trivial⟩ ?_;unfold zA.body at h;refine rgN [0] ?_;refine rgN [0, 3] ?_
 refine za fun Z1 hZ1 => ?_
 refine rgN [0, 3, 4] ?_;apply ze
 refine yU 0 fun hb6 => ?_
 replace hb6 : qb a0 ≤ 9223372036854775807 := hb6.1;refine zr (fun m L τ => ∃ (p6 q6 : List GEntry) (x3 : Int) (x2 : Int), m = qb q6 ∧ L = [(0, .ds true (qe encGEntry a0) (qb a0) false), (3, .int .i64 x2), (4, .int .i64 x3)] ∧ τ = [] ∧ a0 = p6 ++ q6 ∧ x3 = (qb p6 : Int) ∧ zA.l6 yb q6 x3 x2 = some r) _ ⟨[], a0, 0, 0, rfl, rfl, rfl, rfl, rfl, h⟩ .s ?_;rintro m L τ ⟨p6, q6, x3, x2, rfl, rfl, rfl, hE6, hi6, h⟩
 rcases q6 with _ | ⟨y6, q6⟩
 · have hz6 := yq hE6 hi6;simp only [zA.l6] at h
   refine za fun Z7 hZ7 => ?_
   refine rg tok [0, 3, 4, 10] fun K hK => ?_
   simp only [go_sem, qc, qa, reduceCtorEq, hz6];apply hK
   refine zo rfl ?_;apply zy;apply hZ1;refine rgN [2] ?_;cases h;exact rtA
 obtain ⟨hz6, hw6, hx6, hE'6, hi'6⟩ := zX hE6 hi6 hb6;simp only [zA.l6] at h
 refine za fun Z8 hZ8 => ?_
 refine rg tok [0, 3, 4, 10] fun K hK => ?_
 simp only [go_sem, qc, qa, reduceCtorEq, hz6];apply hK
 refine zq rfl ?_;apply zd;apply hZ8
 refine za fun Z9 hZ9 => ?_
 apply ze;have f10 := E27.idxS hx6;have f11 := E27.loadS rfl rfl hx6
 refine rg tok [0, 3, 4, 5] fun K hK => ?_
 simp only [go_sem, qc, qf, qa, qd, reduceCtorEq, cellsGEntry, yg, f10, f11];apply hK
 refine za fun Z12 hZ12 => ?_
 refine rc [0, 4, 5, 37] fun K hK => ?_
 refine rnN 5 ?_;refine zh 4 (fun L τ => L = [(0, .ds true (qe encGEntry a0) (qb a0) false), (4, .int .i64 x3), (5, .op 0 0 0), (25, .bool ((decide (y6.fTag ≤ x2)) || (decide (500 < y6.fTag))))] ∧ τ = [.cells 0 (cellsGEntry y6)]) ?_ ?_
 · refine yF 21 rfl (fun hg21 => ?_) (fun hg21 => ?_)
   · have t13 := eq_true hg21;refine rnN 4 ?_;refine zb ⟨rfl, _, _, ⟨rfl, rfl⟩, .p t13⟩
   have t14 := eq_false hg21;refine rnN 4 ?_;refine zb ⟨rfl, _, _, ⟨rfl, rfl⟩, .p t14⟩
 rintro _ _ ⟨rfl, rfl⟩;refine rnN 1 ?_;refine zh 5 (fun L τ => L = [(0, .ds true (qe encGEntry a0) (qb a0) false), (4, .int .i64 x3), (5, .op 0 0 0), (31, .bool (((decide (y6.fTag ≤ x2)) || (decide (500 < y6.fTag))) || (decide ((qb y6.fTrees : Int) < 1))))] ∧ τ = [.cells 0 (cellsGEntry y6)]) ?_ ?_
 · refine zI (b := ((decide (y6.fTag ≤ x2)) || (decide (500 < y6.fTag)))) 26 rfl (fun hg26 => ?_) (fun hg26 => ?_)
   · refine rnN 5 ?_;refine zb ⟨rfl, _, _, ⟨rfl, rfl⟩, .b hg26⟩
   refine rnN 5 ?_;refine zb ⟨rfl, _, _, ⟨rfl, rfl⟩, .b hg26⟩
 rintro _ _ ⟨rfl, rfl⟩;refine rnN 1 ?_;refine zh 5 (fun L τ => L = [(0, .ds true (qe encGEntry a0) (qb a0) false), (4, .int .i64 x3), (5, .op 0 0 0), (37, .bool ((((decide (y6.fTag ≤ x2)) || (decide (500 < y6.fTag))) || (decide ((qb y6.fTrees : Int) < 1))) || (decide (64 < (qb y6.fTrees : Int)))))] ∧ τ = [.cells 0 (cellsGEntry y6)]) ?_ ?_
 · refine zI (b := (((decide (y6.fTag ≤ x2)) || (decide (500 < y6.fTag))) || (decide ((qb y6.fTrees : Int) < 1)))) 32 rfl (fun hg32 => ?_) (fun hg32 => ?_)
   · refine rnN 5 ?_;refine zb ⟨rfl, _, _, ⟨rfl, rfl⟩, .b hg32⟩
   refine rnN 5 ?_;refine zb ⟨rfl, _, _, ⟨rfl, rfl⟩, .b hg32⟩
 rintro _ _ ⟨rfl, rfl⟩;refine nkN hK ?_;refine zn (b := ((((decide (y6.fTag ≤ x2)) || (decide (500 < y6.fTag))) || (decide ((qb y6.fTrees : Int) < 1))) || (decide (64 < (qb y6.fTrees : Int))))) rfl (fun hc15 => ?_) (fun hc15 => ?_)
 · rw [if_pos hc15] at h;refine rgN [2] ?_;cases h;exact rtA
 rw [xP hc15] at h;apply zd;apply hZ12;refine rgN [0, 3, 4, 5] ?_;refine rgN [0, 3, 4, 5, 6] ?_;apply ze
 refine xA 0 rfl fun hb18 => ?_
 replace hb18 : qb y6.fTrees ≤ 9223372036854775807 := hb18.2.1.1;refine zr (fun m L τ => ∃ (p18 q18 : List GTree) (x16 : Int), m = qb q18 ∧ L = [(0, .ds true (qe encGEntry a0) (qb a0) false), (3, .int .i64 y6.fTag), (4, .int .i64 x3), (5, .op 0 0 0), (6, .int .i64 x16)] ∧ τ = [.cells 0 (cellsGEntry y6)] ∧ y6.fTrees = p18 ++ q18 ∧ x16 = (qb p18 : Int) ∧ zA.l18 yb x3 (zA.l6 yb q6) y6 q18 x16 = some r) _ ⟨[], y6.fTrees, 0, rfl, rfl, rfl, rfl, rfl, h⟩ .s ?_;rintro m L τ ⟨p18, q18, x16, rfl, rfl, rfl, hE18, hi18, h⟩
 rcases q18 with _ | ⟨y18, q18⟩
 · have hz18 := yq hE18 hi18;simp only [zA.l18] at h
   refine za fun Z19 hZ19 => ?_
   refine rg tok [0, 3, 4, 5, 6, 44] fun K hK => ?_
   simp only [go_sem, qc, qa, qd, reduceCtorEq, hz18];apply hK
   refine zo rfl ?_;apply zy;apply hZ9
   refine rgE tok [0, 3, 4] fun K hK => ?_
   simp only [go_sem, qc, qa, reduceCtorEq, hw6];apply hK
   exact ⟨_, _, _, qs q6.length, ⟨p6 ++ [y6], q6, x3 + 1, y6.fTag, rfl, rfl, rfl, hE'6, hi'6, h⟩, (.t [] false)⟩
 obtain ⟨hz18, hw18, hx18, hE'18, hi'18⟩ := zX hE18 hi18 hb18;simp only [zA.l18] at h
 refine za fun Z20 hZ20 => ?_
 refine rg tok [0, 3, 4, 5, 6, 44] fun K hK => ?_
 simp only [go_sem, qc, qa, qd, reduceCtorEq, hz18];apply hK
 refine zq rfl ?_;apply zd;apply hZ20
 refine za fun Z21 hZ21 => ?_
 apply ze;refine xr (fun L τ => ∃ (x22 : Bool), L = [(0, .ds true (qe encGEntry a0) (qb a0) false), (3, .int .i64 y6.fTag), (4, .int .i64 x3), (5, .op 0 0 0), (6, .int .i64 x16), (67, .bool x22)] ∧ τ = [.cells 0 (cellsGEntry y6)] ∧ zA.j23 x16 (zA.l18 yb x3 (zA.l6 yb q6) y6 q18) x22 = some r) ?_ ?_
 · refine rdE [0, 3, 4, 5, 6, 67] fun K hK => ?_
   refine DW.start (T := tab) [.any, .at [], .any, .any, .any, .at [], .any, .at [], .any, .any, .at [], .any, .any, .any, .at [], .any, .any, .at [], .eff, .any, .any] [] ?_;have f25 := E90.idxS hx18;have f26 := E90.fldS0 (f := 3) rfl rfl hx18;obtain ⟨y27, hy27, h⟩ := bind_some h;have f28 := E90.idxS hy27;have f29 := E90.fldS0 (f := 3) rfl rfl hy27;refine DW.runN tok 8 ?_;simp only [go_sem, qc, qa, qd, reduceCtorEq, cellsGTree, yp, f25, f26];refine DW.runN tok 5 ?_;simp only [go_sem, qc, qa, reduceCtorEq, cellsGTree, yp, f28, f29]
   refine DW.if 59 rfl (fun hg59 => ?_) (fun hg59 => ?_)
   · rw [if_neg hg59] at h;have t30 := eq_false hg59;refine DW.runN tok 8 ?_;simp only [go_sem, qc, qa, reduceCtorEq, t30];refine DW.fin tok (by decide +kernel) rfl ?_;simp only [zp, upd, qa, reduceIte, yP, xG];apply hK
     exact ⟨_, _, ⟨true, rfl, rfl, h⟩, .s⟩
   rw [if_pos hg59] at h;have t31 := eq_true hg59;have f32 := E90.idxS hx18;have f33 := E90.loadS rfl rfl hx18;obtain ⟨r34, hr34, h⟩ := bind_some h;refine DW.runN tok 5 ?_;simp only [go_sem, qc, qa, qd, reduceCtorEq, cellsGTree, yp, t31, f32, f33];refine DW.call rfl rfl rfl (ev_ref09_check y18 r34 hr34 _) ?_;refine DW.runN tok 2 ?_;simp only [go_sem, qc, qa, reduceCtorEq];refine DW.fin tok (by decide +kernel) rfl ?_;simp only [zp, upd, qa, reduceIte, yP, xG];apply hK
   exact ⟨_, _, ⟨!r34, rfl, rfl, h⟩, .s⟩
 rintro _ _ ⟨x22, rfl, rfl, h⟩;unfold zA.j23 at h;refine zn (b := x22) rfl (fun hc24 => ?_) (fun hc24 => ?_)
 · rw [if_pos hc24] at h;refine rgN [2] ?_;cases h;exact rtA
 rw [xP hc24] at h;apply zd;apply hZ21
 refine rgE tok [0, 3, 4, 5, 6] fun K hK => ?_
 simp only [go_sem, qc, qa, reduceCtorEq, hw18];apply hK
 exact ⟨_, _, _, qs q18.length, ⟨p18 ++ [y18], q18, x16 + 1, rfl, rfl, rfl, hE'18, hi'18, h⟩, .s⟩
mutual
def yN : Nat → GTree → Option Bool
 | 0, _ => none
 | k + 1, a0 => yN.body (yN k) (zA k) a0
def zA : Nat → (List GEntry) → Option Bool
 | 0, _ => none
 | k + 1, a0 => zA.body (yN k) (zA k) a0
end
theorem yN.all (k : Nat) : (∀ (a0 : GTree) (r : Bool), yN k a0 = some r → ACalls qh 88 [.agg (cellsGTree a0)] [] (fun r' _ => r' = .bool r)) ∧ (∀ (a0 : List GEntry) (r : Bool), zA k a0 = some r → ACalls qh 124 [.ds true (qe encGEntry a0) (qb a0) false] [] (fun r' _ => r' = .bool r)) := by
 induction k with
 | zero => exact ⟨(fun a0 r h => by simp only [yN] at h; cases h), (fun a0 r h => by simp only [zA] at h; cases h)⟩
 | succ k ih => exact ⟨(fun a0 r h => yN.step _ _ ih.1 ih.2 a0 r (by simpa only [yN] using h)), (fun a0 r h => zA.step _ _ ih.1 ih.2 a0 r (by simpa only [zA] using h))⟩
theorem yN.ev (k : Nat) (a0 : GTree) (r : Bool) (h : yN k a0 = some r) (σ : Store) : ACalls qh 88 [.agg (cellsGTree a0)] σ (fun r' σ' => r' = .bool r ∧ σ' = σ) :=
 ((yN.all k).1 a0 r h).c σ
def wF (a0 : GTree) : Option Bool :=
 (wE a0).bind fun r1 => (if r1 ≤ 10 then (yN rounds a0).bind fun r2 => some r2 else some false).bind fun c2 => some c2
theorem wF.ok (a0 : GTree) (r : Bool) (h : wF a0 = some r) : ACalls qh 49 [.agg (cellsGTree a0)] [] (fun r' _ => r' = .bool r) := by
 refine zf (rs := [.tmp 2]) tok Tryz.func49 rfl Tryz.ntmps49 rfl Tryz.call49 (by simp) ?_;refine zl [(0, .agg (cellsGTree a0))] ⟨rfl, trivial⟩ ?_;unfold wF at h
 refine rg tok [1] fun K hK => ?_
 simp only [go_sem, qc, qa, qd, reduceCtorEq, cellsGTree];apply hK
 refine rc [2] fun K hK => ?_
 obtain ⟨r1, hr1, h⟩ := bind_some h;refine rnN 1 ?_;refine clN rfl rfl rfl (wE.ev a0 r1 hr1 _) ?_;refine rnN 2 ?_;obtain ⟨c2, hc2, h⟩ := bind_some h;refine zh 3 (fun L τ => L = [(9, .bool c2)] ∧ τ = [.cells 0 (cellsGTree a0)]) ?_ ?_
 · refine yF 6 rfl (fun hg6 => ?_) (fun hg6 => ?_)
   · have t3 := eq_true hg6;rw [if_pos hg6] at hc2;obtain ⟨r4, hr4, hc2⟩ := bind_some hc2;refine rnN 1 ?_;refine clN rfl rfl rfl (yN.ev rounds a0 r4 hr4 _) ?_;refine rnN 1 ?_;cases hc2;refine zb ⟨rfl, _, _, ⟨rfl, rfl⟩, .p t3⟩
   have t5 := eq_false hg6;rw [if_neg hg6] at hc2;refine rnN 3 ?_;cases hc2;refine zb ⟨rfl, _, _, ⟨rfl, rfl⟩, .p t5⟩
 rintro _ _ ⟨rfl, rfl⟩;refine rnN 1 ?_;refine nkN hK ?_;cases h;exact rtA
theorem wF.ev (a0 : GTree) (r : Bool) (h : wF a0 = some r) (σ : Store) : ACalls qh 49 [.agg (cellsGTree a0)] σ (fun r' σ' => r' = .bool r ∧ σ' = σ) :=
 (wF.ok a0 r h).c σ
def yX.l8 : Nat → List UInt8 → Int → Option (List UInt8)
 | 0, _, _ => none
 | k8 + 1, l2, x4 => (if 128 ≤ x4 then (Yf (qb l2 + 1) 1).bind fun _u13 => ((yX.l8 k8) (l2 ++ [q5 (qH (IntKind.u8.wrap ((IntKind.u8.wrap ((x4).tmod 128)) + 128)))]) (IntKind.u64.wrap ((x4).tdiv 128))) else (Yf (qb l2 + 1) 1).bind fun _u17 => some (l2 ++ [q5 (qH (IntKind.u8.wrap x4))]))
def yX (a0 : Int) : Option (List UInt8) :=
 (yX.l8 rounds ([] : List UInt8) a0)
theorem yX.own (a0 : Int) (r : List UInt8) (h : yX a0 = some r) : ACalls qh 150 [.int .u64 a0] [] (fun r' σ' => r' = .os true 1 0 0 0 (qb r) false ∧ σ' = [.cells 0 (qe encB r)]) := by
 refine ACalls.own0 (by simp only [push_cast]) ?_;refine ZL (rs := [.tmp 2]) tok Tryz.func150 rfl Tryz.ntmps150 rfl Tryz.call150 (by simp) ?_;refine zl [(0, .int .u64 a0)] ⟨rfl, trivial⟩ ?_;unfold yX at h;refine rgN [0] ?_;refine rgN [0, 3] ?_;refine wN 3 1 rfl ?_;refine zV (L := [(0, .int .u64 a0), (3, .os true 1 0 0 0 (qb ([] : List UInt8)) false)]) (τ := [.cells 0 (qe encB ([] : List UInt8))]) .s ?_
 refine za fun Z1 hZ1 => ?_
 apply ze;refine zr (fun m L τ => ∃ (k8 : Nat) (l2 : List UInt8) (x4 : Int) (v3 : Nat), m = 0 + k8 ∧ L = [(0, .int .u64 x4), (3, .os true 1 0 v3 0 (qb l2) false)] ∧ τ = [.cells v3 (qe encB l2)] ∧ yX.l8 k8 l2 x4 = some r) _ ⟨rounds, ([] : List UInt8), a0, 0, rfl, rfl, rfl, h⟩ .s ?_;rintro m L τ ⟨k8, l2, x4, v3, rfl, rfl, rfl, h⟩
 rcases k8 with _ | k8
 · cases h
 simp only [yX.l8] at h
 refine za fun Z9 hZ9 => ?_
 refine rgN [0, 3, 5] ?_;refine zw rfl (fun hc10 => ?_) (fun hc10 => ?_)
 · rw [if_pos hc10] at h;have t11 := eq_true hc10;apply zd;apply hZ9;apply ze;have f12 := xx (T := tab) (src := 140) (dst := 5) rfl rfl rfl;obtain ⟨_u13, hu13, h⟩ := bind_some h;have gu13 := yi hu13;have f14 := (zv E34.len l2)
   refine rg tok [0, 3] fun K hK => ?_
   simp only [go_sem, qc, qf, qa, qt, reduceCtorEq, zN, z6, q9, qY, true_and, ue, z8, zO, yj, t11, f12, gu13, f14, uZ, yB, ua, qW, AV.one, qU, qA, qj, ql, qn, qE];apply hK
   refine zV (L := [(0, .int .u64 x4), (3, .os true 1 0 (v3 + 1) 0 (qb (l2 ++ [q5 (qH (IntKind.u8.wrap ((IntKind.u8.wrap ((x4).tmod 128)) + 128)))])) false)]) (τ := [.cells (v3 + 1) (qe encB (l2 ++ [q5 (qH (IntKind.u8.wrap ((IntKind.u8.wrap ((x4).tmod 128)) + 128)))])), .cells 0 [.int .u8 (IntKind.u8.wrap ((IntKind.u8.wrap ((x4).tmod 128)) + 128))]]) (.same (by first | exact ⟨rfl, rfl, trivial⟩ | rfl | (simp only [go_sem, reduceCtorEq, Fits, qi, qj, ql, qn, and_self] <;> rfl)) (by first | exact ⟨rfl, rfl, trivial⟩ | rfl | (simp only [go_sem, encB, q3, qT, ui, qy, vax] <;> rfl))) ?_
   refine rgE tok [0, 3] fun K hK => ?_
   simp only [go_sem, qc, qa, reduceCtorEq, uZ];apply hK
   exact ⟨_, _, _, qs (0 + k8), ⟨k8, l2 ++ [q5 (qH (IntKind.u8.wrap ((IntKind.u8.wrap ((x4).tmod 128)) + 128)))], IntKind.u64.wrap ((x4).tdiv 128), v3 + 1, rfl, rfl, rfl, h⟩, (.t [0] false)⟩
 rw [if_neg hc10] at h;have t15 := eq_false hc10;apply zy;apply hZ1;have f16 := xx (T := tab) (src := 140) (dst := 5) rfl rfl rfl;obtain ⟨_u17, hu17, h⟩ := bind_some h;have gu17 := yi hu17;have f18 := (zv E34.len l2)
 refine rg tok [2] fun K hK => ?_
 simp only [go_sem, qc, qf, qa, qt, reduceCtorEq, zN, z6, q9, qY, true_and, ue, z8, zO, yj, t15, f16, gu17, f18, yB, ua, qW, AV.one, qU, qA, qj, ql, qn, qE];apply hK
 refine zV (L := [(2, .os true 1 0 (v3 + 1) 0 (qb (l2 ++ [q5 (qH (IntKind.u8.wrap x4))])) false)]) (τ := [.cells (v3 + 1) (qe encB (l2 ++ [q5 (qH (IntKind.u8.wrap x4))])), .cells 0 [.int .u8 (IntKind.u8.wrap x4)]]) (.same (by first | exact ⟨rfl, trivial⟩ | rfl | (simp only [go_sem, Fits, qi, qj, ql, qn, and_self] <;> rfl)) (by first | exact ⟨rfl, trivial⟩ | rfl | (simp only [go_sem, encB, q3, qT, ui, qy, vax] <;> rfl))) ?_;apply yA;cases h;simp only [ZC, yV, xe, xQ, exists_eq_left', go_sem, qd];refine ⟨0, v3 + 1, by simp, ?_, ?_⟩
 · first | rfl | (simp only [go_sem, qc, qf, qa, qd, qt, qG, reduceIte, reduceCtorEq, push_cast, if_true, qB, qn, qD, qw, qC, qO, qS, qQ, qP, qL, qz, zH] <;> rfl)
 first | rfl | (simp only [go_sem, push_cast, qw, zH] <;> rfl)
theorem yX.ok (a0 : Int) (r : List UInt8) (h : yX a0 = some r) : ACalls qh 150 [.int .u64 a0] [] (fun r' _ => r' = .ds true (qe encB r) (qb r) false) :=
 (yX.own a0 r h).ownData (zv E34.len r) (by simp only [push_cast])
theorem yX.ev (a0 : Int) (r : List UInt8) (h : yX a0 = some r) (σ : Store) : ACalls qh 150 [.int .u64 a0] σ (fun r' σ' => r' = .ds true (qe encB r) (qb r) false ∧ σ' = σ) :=
 (yX.ok a0 r h).c σ
def Zi (a0 : Int) : Int :=
 (if 0 ≤ a0 then IntKind.u64.wrap (2 * (IntKind.u64.wrap a0)) else IntKind.u64.wrap ((IntKind.u64.wrap (2 * (IntKind.u64.wrap (IntKind.i64.wrap (0 - (IntKind.i64.wrap (a0 + 1))))))) + 1))
theorem Zi.ok (a0 : Int) (r : Int) (h : Zi a0 = r) : ACalls qh 151 [.int .i64 a0] [] (fun r' _ => r' = .int .u64 r) := by
 refine zf (rs := [.tmp 2]) tok Tryz.func151 rfl Tryz.ntmps151 rfl Tryz.call151 (by simp) ?_;refine zl [(0, .int .i64 a0)] ⟨rfl, trivial⟩ ?_;unfold Zi at h;refine rgN [0] ?_
 refine za fun Z1 hZ1 => ?_
 refine rgN [0, 4] ?_;refine zw rfl (fun hc2 => ?_) (fun hc2 => ?_)
 · rw [if_pos hc2] at h;have t3 := eq_true hc2;have f4 := xx (T := tab) (src := 3) (dst := 140) rfl rfl rfl
   refine rg tok [2] fun K hK => ?_
   simp only [go_sem, qc, qa, reduceCtorEq, t3, f4];apply hK
   cases h;exact rtA
 rw [if_neg hc2] at h;have t5 := eq_false hc2;apply zd;apply hZ1;have f6 := xx (T := tab) (src := 3) (dst := 140) rfl rfl rfl
 refine rg tok [2] fun K hK => ?_
 simp only [go_sem, qc, qa, reduceCtorEq, t5, f6];apply hK
 cases h;exact rtA
theorem Zi.ev (a0 : Int) (r : Int) (h : Zi a0 = r) (σ : Store) : ACalls qh 151 [.int .i64 a0] σ (fun r' σ' => r' = .int .u64 r ∧ σ' = σ) :=
 (Zi.ok a0 r h).c σ
def wL (a0 : GRaw) : Option (List UInt8) :=
 (yX (IntKind.u64.wrap (IntKind.i64.wrap ((IntKind.i64.wrap (2 * a0.fTag)) + a0.fWire)))).bind fun r2 => (if a0.fWire = 0 then bnd (Zi a0.fN) fun r6 => (yX r6).bind fun r7 => (Yf (qb r2 + qb r7) 1).bind fun _u9 => some (r2 ++ r7) else (yX (IntKind.u64.wrap (qb a0.fB : Int))).bind fun r13 => (Yf (qb r2 + qb r13) 1).bind fun _u15 => (Yf (qb (r2 ++ r13) + qb a0.fB) 1).bind fun _u17 => some ((r2 ++ r13) ++ a0.fB))
theorem wL.own (a0 : GRaw) (r : List UInt8) (h : wL a0 = some r) : ACalls qh 127 [.agg (encGRaw a0)] [] (fun r' σ' => r' = .os true 1 0 0 0 (qb r) false ∧ σ' = [.cells 0 (qe encB r)]) := by
 refine ACalls.own0 (by simp only [push_cast]) ?_;refine ZL (rs := [.tmp 2]) tok Tryz.func127 rfl Tryz.ntmps127 rfl Tryz.call127 (by simp) ?_;refine zl [(0, .agg (encGRaw a0))] ⟨rfl, trivial⟩ ?_;unfold wL at h
 refine rg tok [1] fun K hK => ?_
 simp only [go_sem, qc, qa, qd, reduceCtorEq, encGRaw];apply hK
 refine rc [1, 3] fun K hK => ?_
 have f1 := xx (T := tab) (src := 3) (dst := 140) rfl rfl rfl;obtain ⟨r2, hr2, h⟩ := bind_some h;refine zj tok 7 ?_;simp only [go_sem, qc, qa, qd, f1];refine clN rfl rfl rfl (@id (ACalls qh 150 [.int .u64 (IntKind.u64.wrap (IntKind.i64.wrap ((IntKind.i64.wrap (2 * a0.fTag)) + a0.fWire)))] [.cells 0 [.int .i64 a0.fTag, .int .i64 a0.fWire, .int .i64 a0.fN, .str a0.fB]] (fun r' σ' => r' = .os true 1 1 0 0 (qb r2) false ∧ σ' = [.cells 0 [.int .i64 a0.fTag, .int .i64 a0.fWire, .int .i64 a0.fN, .str a0.fB], .cells 0 (qe encB r2)])) ((yX.own (IntKind.u64.wrap (IntKind.i64.wrap ((IntKind.i64.wrap (2 * a0.fTag)) + a0.fWire))) r2 hr2).ownAt0 (by simp only [push_cast]) (by simp only [push_cast]) _)) ?_;refine rnN 1 ?_;refine nkN hK ?_
 refine za fun Z3 hZ3 => ?_
 refine rgN [1, 3, 14] ?_;refine zw rfl (fun hc4 => ?_) (fun hc4 => ?_)
 · rw [if_pos hc4] at h;have t5 := eq_true hc4
   refine rc [2] fun K hK => ?_
   obtain ⟨r6, hr6, h⟩ := zS h;refine zj tok 3 ?_;simp only [go_sem, qc, qa, qd, t5];refine clN rfl rfl rfl (Zi.ev a0.fN r6 hr6 _) ?_;obtain ⟨r7, hr7, h⟩ := bind_some h;refine clN rfl rfl rfl (yX.ev r6 r7 hr7 _) ?_
   have f8 := fun nl tt σ => xK E34.len r7 nl tt σ
   obtain ⟨_u9, hu9, h⟩ := bind_some h;have gu9 := yi hu9;have f10 := (zv E34.len r2);refine zj tok 2 ?_;simp only [go_sem, qc, qa, z8, zO, yj, true_and, f8, gu9, f10, Ze, qn];refine nkN hK ?_;refine zV (L := [(2, .os true 1 1 (0 + 1) 0 (qb (r2 ++ r7)) false)]) (τ := [.cells 0 [.int .i64 a0.fTag, .int .i64 a0.fWire, .int .i64 a0.fN, .str a0.fB], .cells (0 + 1) (qe encB (r2 ++ r7))]) .s ?_;apply yA;cases h;simp only [ZC, yV, xe, xQ, exists_eq_left', go_sem, qd];refine ⟨1, 0 + 1, by simp, ?_, ?_⟩
   · first | rfl | (simp only [go_sem, qc, qf, qa, qd, qt, qG, reduceIte, reduceCtorEq, push_cast, if_true, qB, qn, qD, qw, qC, qO, qS, qQ, qP, qL, qz, zH] <;> rfl)
   first | rfl | (simp only [go_sem, push_cast, qn, qw, zH] <;> rfl)
 rw [if_neg hc4] at h;have t11 := eq_false hc4;apply zd;apply hZ3
 refine rc [1, 3] fun K hK => ?_
 have f12 := xx (T := tab) (src := 3) (dst := 140) rfl rfl rfl;obtain ⟨r13, hr13, h⟩ := bind_some h;refine zj tok 5 ?_;simp only [go_sem, qc, qa, qd, t11, f12];refine clN rfl rfl rfl (yX.ev (IntKind.u64.wrap (qb a0.fB : Int)) r13 hr13 _) ?_
 have f14 := fun nl tt σ => xK E34.len r13 nl tt σ
 obtain ⟨_u15, hu15, h⟩ := bind_some h;have gu15 := yi hu15;have f16 := (zv E34.len r2);refine zj tok 2 ?_;simp only [go_sem, qc, qa, z8, zO, yj, true_and, f14, gu15, f16, Ze, qn];refine nkN hK ?_;refine zV (L := [(1, .op 0 0 0), (3, .os true 1 1 (0 + 1) 0 (qb (r2 ++ r13)) false)]) (τ := [.cells 0 [.int .i64 a0.fTag, .int .i64 a0.fWire, .int .i64 a0.fN, .str a0.fB], .cells (0 + 1) (qe encB (r2 ++ r13))]) .s ?_;obtain ⟨_u17, hu17, h⟩ := bind_some h;have gu17 := yi hu17
 first | simp only [qi] at gu17 | skip
 have f18 := (zv E34.len (r2 ++ r13));simp only [q3, qi] at f18
 refine rg tok [2] fun K hK => ?_
 simp only [go_sem, qc, qa, qd, z8, zO, yj, true_and, gu17, f18, srcCells_s, Xc, Ze, q3, qi, qj, ql, qn, qq];apply hK
 refine zV (L := [(2, .os true 1 1 (0 + 1 + 1) 0 (qb ((r2 ++ r13) ++ a0.fB)) false)]) (τ := [.cells 0 [.int .i64 a0.fTag, .int .i64 a0.fWire, .int .i64 a0.fN, .str a0.fB], .cells (0 + 1 + 1) (qe encB ((r2 ++ r13) ++ a0.fB))]) .s ?_;apply yA;cases h;simp only [ZC, yV, xe, xQ, exists_eq_left', go_sem, qd];refine ⟨1, 0 + 1 + 1, by simp, ?_, ?_⟩
 · first | rfl | (simp only [go_sem, qc, qf, qa, qd, qt, qG, reduceIte, reduceCtorEq, push_cast, if_true, qB, qn, qD, qw, qC, qO, qS, qQ, qP, qL, qz, zH] <;> rfl)
 first | rfl | (simp only [go_sem, qd, push_cast, qn, qw, zH] <;> rfl)
theorem wL.ok (a0 : GRaw) (r : List UInt8) (h : wL a0 = some r) : ACalls qh 127 [.agg (encGRaw a0)] [] (fun r' _ => r' = .ds true (qe encB r) (qb r) false) :=
 (wL.own a0 r h).ownData (zv E34.len r) (by simp only [push_cast])
theorem wL.ev (a0 : GRaw) (r : List UInt8) (h : wL a0 = some r) (σ : Store) : ACalls qh 127 [.agg (encGRaw a0)] σ (fun r' σ' => r' = .ds true (qe encB r) (qb r) false ∧ σ' = σ) :=
 (wL.ok a0 r h).c σ
def yd.l13 : List GRaw → Int → List UInt8 → Option (List UInt8 × Int)
 | [], x9, l7 => some (l7, 0)
 | y13 :: q13, x9, l7 => (wL y13).bind fun r19 => (Yf (qb l7 + qb r19) 1).bind fun _u21 => (if 4096 < (qb (l7 ++ r19) : Int) then some (([] : List UInt8), 4) else ((yd.l13 q13) (x9 + 1) (l7 ++ r19)))
def yd.l4 (a0 : List GRaw) : List GRaw → Int → Option (List UInt8 × Int)
 | [], x2 => (yd.l13 a0 0 ([] : List UInt8))
 | y4 :: q4, x2 => bnd (wd y4) fun r30 => (if (!r30) = true then some (([] : List UInt8), 1) else ((yd.l4 a0 q4) (x2 + 1)))
def yd (a0 : List GRaw) : Option (List UInt8 × Int) :=
 (yd.l4 a0 a0 0)
theorem yd.ok (a0 : List GRaw) (r : List UInt8 × Int) (h : yd a0 = some r) : ACalls qh 91 [.ds true (qe encGRaw a0) (qb a0) false] [] (fun r' _ => r' = .tup [.ds true (qe encB r.1) (qb r.1) false, .int .i64 r.2]) := by
 refine zf (rs := [.tmp 2, .tmp 3]) tok Tryz.func91 rfl Tryz.ntmps91 rfl Tryz.call91 (by simp) ?_;refine zl [(0, .ds true (qe encGRaw a0) (qb a0) false)] ⟨rfl, trivial⟩ ?_;unfold yd at h;refine rgN [0] ?_;refine rgN [0, 4] ?_;refine wN 4 1 rfl ?_;refine zV (L := [(0, .ds true (qe encGRaw a0) (qb a0) false), (4, .os true 1 0 0 0 (qb ([] : List UInt8)) false)]) (τ := [.cells 0 (qe encB ([] : List UInt8))]) .s ?_
 refine za fun Z1 hZ1 => ?_
 refine rgN [0, 4, 5] ?_;apply ze
 refine yU 0 fun hb4 => ?_
 replace hb4 : qb a0 ≤ 9223372036854775807 := hb4.1;refine zr (fun m L τ => ∃ (p4 q4 : List GRaw) (x2 : Int), m = qb q4 ∧ L = [(0, .ds true (qe encGRaw a0) (qb a0) false), (4, .os true 1 0 0 0 (qb ([] : List UInt8)) false), (5, .int .i64 x2)] ∧ τ = [.cells 0 (qe encB ([] : List UInt8))] ∧ a0 = p4 ++ q4 ∧ x2 = (qb p4 : Int) ∧ yd.l4 a0 q4 x2 = some r) _ ⟨[], a0, 0, rfl, rfl, rfl, rfl, rfl, h⟩ .s ?_;rintro m L τ ⟨p4, q4, x2, rfl, rfl, rfl, hE4, hi4, h⟩
 rcases q4 with _ | ⟨y4, q4⟩
 · have hz4 := yq hE4 hi4;simp only [yd.l4] at h
   refine za fun Z5 hZ5 => ?_
   refine rg tok [0, 4, 5, 10] fun K hK => ?_
   simp only [go_sem, qc, qa, reduceCtorEq, hz4];apply hK
   refine zo rfl ?_;apply zy;apply hZ1
   refine za fun Z6 hZ6 => ?_
   refine rgN [0, 4, 6] ?_;apply ze
   refine yU 0 fun hb13 => ?_
   replace hb13 : qb a0 ≤ 9223372036854775807 := hb13.1;refine zr (fun m L τ => ∃ (p13 q13 : List GRaw) (x9 : Int) (l7 : List UInt8) (v8 : Nat), m = qb q13 ∧ L = [(0, .ds true (qe encGRaw a0) (qb a0) false), (4, .os true 1 0 v8 0 (qb l7) false), (6, .int .i64 x9)] ∧ τ = [.cells v8 (qe encB l7)] ∧ a0 = p13 ++ q13 ∧ x9 = (qb p13 : Int) ∧ yd.l13 q13 x9 l7 = some r) _ ⟨[], a0, 0, ([] : List UInt8), 0, rfl, rfl, rfl, rfl, rfl, h⟩ .s ?_;rintro m L τ ⟨p13, q13, x9, l7, v8, rfl, rfl, rfl, hE13, hi13, h⟩
   rcases q13 with _ | ⟨y13, q13⟩
   · have hz13 := yq hE13 hi13;simp only [yd.l13] at h
     refine za fun Z14 hZ14 => ?_
     refine rg tok [0, 4, 6, 22] fun K hK => ?_
     simp only [go_sem, qc, qa, reduceCtorEq, hz13];apply hK
     refine zo rfl ?_;apply zy;apply hZ6;refine rgN [2, 3] ?_;cases h;exact rtA
   obtain ⟨hz13, hw13, hx13, hE'13, hi'13⟩ := zX hE13 hi13 hb13;simp only [yd.l13] at h
   refine za fun Z15 hZ15 => ?_
   refine rg tok [0, 4, 6, 22] fun K hK => ?_
   simp only [go_sem, qc, qa, reduceCtorEq, hz13];apply hK
   refine zq rfl ?_;apply zd;apply hZ15
   refine za fun Z16 hZ16 => ?_
   apply ze
   refine rc [0, 4, 6] fun K hK => ?_
   have f17 := E28.idxS hx13;have f18 := E28.loadS rfl rfl hx13;obtain ⟨r19, hr19, h⟩ := bind_some h;refine zj tok 5 ?_;simp only [go_sem, qc, qa, reduceCtorEq, encGRaw, f17, f18];refine clN rfl rfl rfl (wL.ev y13 r19 hr19 _) ?_
   have f20 := fun nl tt σ => xK E34.len r19 nl tt σ
   obtain ⟨_u21, hu21, h⟩ := bind_some h;have gu21 := yi hu21;have f22 := (zv E34.len l7);refine zj tok 2 ?_;simp only [go_sem, qc, qa, reduceCtorEq, z8, zO, yj, true_and, f20, gu21, f22, Ze];refine nkN hK ?_;refine zV (L := [(0, .ds true (qe encGRaw a0) (qb a0) false), (4, .os true 1 0 (v8 + 1) 0 (qb (l7 ++ r19)) false), (6, .int .i64 x9)]) (τ := [.cells (v8 + 1) (qe encB (l7 ++ r19))]) .s ?_;refine rgN [0, 4, 6, 34] ?_;refine zw rfl (fun hc23 => ?_) (fun hc23 => ?_)
   · rw [if_pos hc23] at h;have t24 := eq_true hc23
     refine rg tok [2, 3] fun K hK => ?_
     simp only [go_sem, qc, qa, reduceCtorEq, t24];apply hK
     cases h;exact rtA
   rw [if_neg hc23] at h;have t25 := eq_false hc23;apply zd;apply hZ16
   refine rgE tok [0, 4, 6] fun K hK => ?_
   simp only [go_sem, qc, qa, reduceCtorEq, hw13, t25];apply hK
   exact ⟨_, _, _, qs q13.length, ⟨p13 ++ [y13], q13, x9 + 1, l7 ++ r19, v8 + 1, rfl, rfl, rfl, hE'13, hi'13, h⟩, .s⟩
 obtain ⟨hz4, hw4, hx4, hE'4, hi'4⟩ := zX hE4 hi4 hb4;simp only [yd.l4] at h
 refine za fun Z26 hZ26 => ?_
 refine rg tok [0, 4, 5, 10] fun K hK => ?_
 simp only [go_sem, qc, qa, reduceCtorEq, hz4];apply hK
 refine zq rfl ?_;apply zd;apply hZ26
 refine za fun Z27 hZ27 => ?_
 apply ze
 refine rc [0, 4, 5, 18] fun K hK => ?_
 have f28 := E28.idxS hx4;have f29 := E28.loadS rfl rfl hx4;obtain ⟨r30, hr30, h⟩ := zS h;refine zj tok 4 ?_;simp only [go_sem, qc, qa, reduceCtorEq, encGRaw, f28, f29];refine clN rfl rfl rfl (wd.ev y4 r30 hr30 _) ?_;refine rnN 1 ?_;refine nkN hK ?_;refine zn (b := (!r30)) rfl (fun hc31 => ?_) (fun hc31 => ?_)
 · rw [if_pos hc31] at h;refine rgN [2, 3] ?_;cases h;exact rtA
 rw [xP hc31] at h;apply zd;apply hZ27
 refine rgE tok [0, 4, 5] fun K hK => ?_
 simp only [go_sem, qc, qa, reduceCtorEq, hw4];apply hK
 exact ⟨_, _, _, qs q4.length, ⟨p4 ++ [y4], q4, x2 + 1, rfl, rfl, rfl, hE'4, hi'4, h⟩, .s⟩
theorem yd.ev (a0 : List GRaw) (r : List UInt8 × Int) (h : yd a0 = some r) (σ : Store) : ACalls qh 91 [.ds true (qe encGRaw a0) (qb a0) false] σ (fun r' σ' => r' = .tup [.ds true (qe encB r.1) (qb r.1) false, .int .i64 r.2] ∧ σ' = σ) :=
 (yd.ok a0 r h).c σ
def yJ.body (zW : GTree → Option (List UInt8 × Int)) (xY : GTree → Option (List GRaw × Int)) (a0 : GTree) : Option (List UInt8 × Int) :=
 (xY a0).bind fun r1 => (if r1.2 = 0 then (yd r1.1).bind fun r6 => some (r6.1, r6.2) else some (([] : List UInt8), r1.2))
theorem yJ.step (zW : GTree → Option (List UInt8 × Int)) (xY : GTree → Option (List GRaw × Int)) (Yi : ∀ (a0 : GTree) (r : List UInt8 × Int), zW a0 = some r → ACalls qh 54 [.agg (cellsGTree a0)] [] (fun r' _ => r' = .tup [.ds true (qe encB r.1) (qb r.1) false, .int .i64 r.2])) (Y6 : ∀ (a0 : GTree) (r : List GRaw × Int), xY a0 = some r → ACalls qh 50 [.agg (cellsGTree a0)] [] (fun r' _ => r' = .tup [.ds true (qe encGRaw r.1) (qb r.1) false, .int .i64 r.2])) (a0 : GTree) (r : List UInt8 × Int) (h : yJ.body zW xY a0 = some r) : ACalls qh 54 [.agg (cellsGTree a0)] [] (fun r' _ => r' = .tup [.ds true (qe encB r.1) (qb r.1) false, .int .i64 r.2]) := by
 have ev_ref11_encode := fun a0 r h σ => (Yi a0 r h).c σ
 have ev_ref11_raws := fun a0 r h σ => (Y6 a0 r h).c σ
 refine zf (rs := [.tmp 2, .tmp 3]) tok Tryz.func54 rfl Tryz.ntmps54 rfl Tryz.call54 (by simp) ?_;refine zl [(0, .agg (cellsGTree a0))] ⟨rfl, trivial⟩ ?_;unfold yJ.body at h
 refine rg tok [1] fun K hK => ?_
 simp only [go_sem, qc, qa, qd, reduceCtorEq, cellsGTree];apply hK
 refine rc [4, 5] fun K hK => ?_
 obtain ⟨r1, hr1, h⟩ := bind_some h;refine rnN 1 ?_;refine clN rfl rfl rfl (ev_ref11_raws a0 r1 hr1 _) ?_;refine rnN 5 ?_;refine nkN hK ?_
 refine za fun Z2 hZ2 => ?_
 refine rgN [4, 5, 12] ?_;refine zw rfl (fun hc3 => ?_) (fun hc3 => ?_)
 · rw [if_neg hc3] at h;have t4 := eq_false hc3
   refine rg tok [2, 3] fun K hK => ?_
   simp only [go_sem, qc, qa, t4];apply hK
   cases h;exact rtA
 rw [if_pos hc3] at h;have t5 := eq_true hc3;apply zd;apply hZ2
 refine rc [2, 3] fun K hK => ?_
 obtain ⟨r6, hr6, h⟩ := bind_some h;refine zj tok 1 ?_;simp only [go_sem, qc, qa, t5];refine clN rfl rfl rfl (yd.ev r1.1 r6 hr6 _) ?_;refine rnN 4 ?_;refine nkN hK ?_;cases h;exact rtA
def zR.j37 (x18 : Int) (l16 : List GRaw) (rec22 : Int → List GRaw → Option (List GRaw × Int)) (m2_36 : GRaw) : Option (List GRaw × Int) :=
 (if 4096 < (qb m2_36.fB : Int) then some (([] : List GRaw), 4) else (Yf (qb l16 + 1) 40).bind fun _u42 => (rec22 (x18 + 1) (l16 ++ [m2_36])))
def zR.l22 (zW : GTree → Option (List UInt8 × Int)) (x4 : Int) (rec8 : Int → List GRaw → Option (List GRaw × Int)) (y8 : GEntry) : List GTree → Int → List GRaw → Option (List GRaw × Int)
 | [], x18, l16 => (rec8 (x4 + 1) l16)
 | y22 :: q22, x18, l16 => (if y22.fKind = 1 then (zR.j37 x18 l16 (zR.l22 zW x4 rec8 y8 q22) (⟨y8.fTag, 0, y22.fN, []⟩ : GRaw)) else (if y22.fKind = 2 then (zR.j37 x18 l16 (zR.l22 zW x4 rec8 y8 q22) (⟨y8.fTag, 1, 0, y22.fS⟩ : GRaw)) else (zW y22).bind fun r50 => (if r50.2 = 0 then (zR.j37 x18 l16 (zR.l22 zW x4 rec8 y8 q22) (⟨y8.fTag, 1, 0, r50.1⟩ : GRaw)) else some (([] : List GRaw), r50.2))))
def zR.l8 (zW : GTree → Option (List UInt8 × Int)) (a0 : GTree) : List GEntry → Int → List GRaw → Option (List GRaw × Int)
 | [], x4, l2 => (Yf (qb l2 + qb a0.fRest) 40).bind fun _u11 => (zE (l2 ++ a0.fRest)).bind fun r13 => some (r13, 0)
 | y8 :: q8, x4, l2 => (zR.l22 zW x4 (zR.l8 zW a0 q8) y8 y8.fTrees 0 l2)
def zR.body (zW : GTree → Option (List UInt8 × Int)) (xY : GTree → Option (List GRaw × Int)) (a0 : GTree) : Option (List GRaw × Int) :=
 (zR.l8 zW a0 a0.fEntries 0 ([] : List GRaw))
theorem zR.step (zW : GTree → Option (List UInt8 × Int)) (xY : GTree → Option (List GRaw × Int)) (Yi : ∀ (a0 : GTree) (r : List UInt8 × Int), zW a0 = some r → ACalls qh 54 [.agg (cellsGTree a0)] [] (fun r' _ => r' = .tup [.ds true (qe encB r.1) (qb r.1) false, .int .i64 r.2])) (Y6 : ∀ (a0 : GTree) (r : List GRaw × Int), xY a0 = some r → ACalls qh 50 [.agg (cellsGTree a0)] [] (fun r' _ => r' = .tup [.ds true (qe encGRaw r.1) (qb r.1) false, .int .i64 r.2])) (a0 : GTree) (r : List GRaw × Int) (h : zR.body zW xY a0 = some r) : ACalls qh 50 [.agg (cellsGTree a0)] [] (fun r' _ => r' = .tup [.ds true (qe encGRaw r.1) (qb r.1) false, .int .i64 r.2]) := by
 have ev_ref11_encode := fun a0 r h σ => (Yi a0 r h).c σ
 have ev_ref11_raws := fun a0 r h σ => (Y6 a0 r h).c σ
 refine zf (rs := [.tmp 2, .tmp 3]) tok Tryz.func50 rfl Tryz.ntmps50 rfl Tryz.call50 (by simp) ?_;refine zl [(0, .agg (cellsGTree a0))] ⟨rfl, trivial⟩ ?_;unfold zR.body at h
 refine rg tok [1] fun K hK => ?_
 simp only [go_sem, qc, qa, qd, reduceCtorEq, cellsGTree];apply hK
 refine rgN [1, 4] ?_;refine wN 4 4 rfl ?_;refine zV (L := [(1, .op 0 0 0), (4, .os true 4 1 0 0 (qb ([] : List GRaw)) false)]) (τ := [.cells 0 (cellsGTree a0), .cells 0 (qe encGRaw ([] : List GRaw))]) .s ?_
 refine za fun Z1 hZ1 => ?_
 refine rgN [1, 4, 5] ?_;apply ze
 refine xA 0 rfl fun hb8 => ?_
 replace hb8 : qb a0.fEntries ≤ 9223372036854775807 := hb8.2.2.2.1.1;refine zr (fun m L τ => ∃ (p8 q8 : List GEntry) (x4 : Int) (l2 : List GRaw) (v3 : Nat), m = qb q8 ∧ L = [(1, .op 0 0 0), (4, .os true 4 1 v3 0 (qb l2) false), (5, .int .i64 x4)] ∧ τ = [.cells 0 (cellsGTree a0), .cells v3 (qe encGRaw l2)] ∧ a0.fEntries = p8 ++ q8 ∧ x4 = (qb p8 : Int) ∧ zR.l8 zW a0 q8 x4 l2 = some r) _ ⟨[], a0.fEntries, 0, ([] : List GRaw), 0, rfl, rfl, rfl, rfl, rfl, h⟩ .s ?_;rintro m L τ ⟨p8, q8, x4, l2, v3, rfl, rfl, rfl, hE8, hi8, h⟩
 rcases q8 with _ | ⟨y8, q8⟩
 · have hz8 := yq hE8 hi8;simp only [zR.l8] at h
   refine za fun Z9 hZ9 => ?_
   refine rg tok [1, 4, 5, 15] fun K hK => ?_
   simp only [go_sem, qc, qa, qd, hz8];apply hK
   refine zo rfl ?_;apply zy;apply hZ1
   refine rc [2, 3] fun K hK => ?_
   have f10 := fun nl tt σ => xK E28.len a0.fRest nl tt σ
   obtain ⟨_u11, hu11, h⟩ := bind_some h;have gu11 := yi hu11;have f12 := (zv E28.len l2);obtain ⟨r13, hr13, h⟩ := bind_some h;refine zj tok 4 ?_;simp only [go_sem, qc, qa, qd, z8, zO, yj, true_and, f10, gu11, f12, Ze, qj, ql, qn];refine vab (L := [(80, .ds true (qe encGRaw (l2 ++ a0.fRest)) (qb (l2 ++ a0.fRest)) false)]) (τ := []) (.t [] false) ?_;refine clN rfl rfl rfl (zE.ev (l2 ++ a0.fRest) r13 hr13 _) ?_;refine rnN 2 ?_;refine nkN hK ?_;refine zV (L := [(2, .ds true (qe encGRaw r13) (qb r13) false), (3, .int .i64 0)]) (τ := []) .s ?_;cases h;exact rtA
 obtain ⟨hz8, hw8, hx8, hE'8, hi'8⟩ := zX hE8 hi8 hb8;simp only [zR.l8] at h
 refine za fun Z14 hZ14 => ?_
 refine rg tok [1, 4, 5, 15] fun K hK => ?_
 simp only [go_sem, qc, qa, qd, hz8];apply hK
 refine zq rfl ?_;apply zd;apply hZ14
 refine za fun Z15 hZ15 => ?_
 apply ze;refine rgN [1, 4, 5, 6] ?_;apply ze
 refine xA 0 rfl fun hb22 => ?_
 replace hb22 := vao hb22.2.2.2.1.2 hx8;rw [yg] at hb22;replace hb22 : qb y8.fTrees ≤ 9223372036854775807 := hb22.2.1.1;refine zr (fun m L τ => ∃ (p22 q22 : List GTree) (x18 : Int) (l16 : List GRaw) (v17 : Nat), m = qb q22 ∧ L = [(1, .op 0 0 0), (4, .os true 4 1 v17 0 (qb l16) false), (5, .int .i64 x4), (6, .int .i64 x18)] ∧ τ = [.cells 0 (cellsGTree a0), .cells v17 (qe encGRaw l16)] ∧ y8.fTrees = p22 ++ q22 ∧ x18 = (qb p22 : Int) ∧ zR.l22 zW x4 (zR.l8 zW a0 q8) y8 q22 x18 l16 = some r) _ ⟨[], y8.fTrees, 0, l2, v3, rfl, rfl, rfl, rfl, rfl, h⟩ .s ?_;rintro m L τ ⟨p22, q22, x18, l16, v17, rfl, rfl, rfl, hE22, hi22, h⟩
 rcases q22 with _ | ⟨y22, q22⟩
 · have hz22 := yq hE22 hi22;simp only [zR.l22] at h
   refine za fun Z23 hZ23 => ?_
   have f24 := E27.idxS hx8;have f25 := E27.fldS (f := 90) rfl rfl hx8 (o := 1) (by decide)
   refine rg tok [1, 4, 5, 6, 26] fun K hK => ?_
   simp only [go_sem, qc, qa, qd, cellsGEntry, yg, hz22, f24, f25];apply hK
   refine zo rfl ?_;apply zy;apply hZ15
   refine rgE tok [1, 4, 5] fun K hK => ?_
   simp only [go_sem, qc, qa, hw8];apply hK
   exact ⟨_, _, _, qs q8.length, ⟨p8 ++ [y8], q8, x4 + 1, l16, v17, rfl, rfl, rfl, hE'8, hi'8, h⟩, .s⟩
 obtain ⟨hz22, hw22, hx22, hE'22, hi'22⟩ := zX hE22 hi22 hb22;simp only [zR.l22] at h
 refine za fun Z26 hZ26 => ?_
 have f27 := E27.idxS hx8;have f28 := E27.fldS (f := 90) rfl rfl hx8 (o := 1) (by decide)
 refine rg tok [1, 4, 5, 6, 26] fun K hK => ?_
 simp only [go_sem, qc, qa, qd, cellsGEntry, yg, hz22, f27, f28];apply hK
 refine zq rfl ?_;apply zd;apply hZ26
 refine za fun Z29 hZ29 => ?_
 apply ze;have f30 := E27.idxS hx8;have f31 := E27.fldS (f := 90) rfl rfl hx8 (o := 1) (by decide);have f32 := E90.idxS hx22;have f33 := E90.loadS rfl rfl hx22
 refine rg tok [1, 4, 5, 6, 7] fun K hK => ?_
 simp only [go_sem, qc, qf, qa, qd, cellsGEntry, cellsGTree, yg, yp, f30, f31, f32, f33];apply hK
 have f34 := E27.idxS hx8;have f35 := E27.fldS0 (f := 3) rfl rfl hx8
 refine rg tok [1, 4, 5, 6, 7, 8] fun K hK => ?_
 simp only [go_sem, qc, qf, qa, qd, cellsGEntry, yg, f34, f35];apply hK
 refine xr (fun L τ => ∃ (m2_36 : GRaw), L = [(1, .op 0 0 0), (4, .os true 4 1 v17 0 (qb l16) false), (5, .int .i64 x4), (6, .int .i64 x18), (8, .op 2 0 0)] ∧ τ = [.cells 0 (cellsGTree a0), .cells v17 (qe encGRaw l16), .cells 0 [.int .i64 m2_36.fTag, .int .i64 m2_36.fWire, .int .i64 m2_36.fN, .str m2_36.fB]] ∧ zR.j37 x18 l16 (zR.l22 zW x4 (zR.l8 zW a0 q8) y8 q22) m2_36 = some r) ?_ ?_
 · refine rgN [1, 4, 5, 6, 7, 8, 46] ?_;apply ze;refine rgN [1, 4, 5, 6, 7, 8, 46, 58] ?_;refine zw rfl (fun hc44 => ?_) (fun hc44 => ?_)
   · rw [if_pos hc44] at h;have t45 := eq_true hc44
     refine rg tok [1, 4, 5, 6, 7, 8] fun K hK => ?_
     simp only [go_sem, qc, qf, qa, qd, t45];apply hK
     refine rgE tok [1, 4, 5, 6, 8] fun K hK => ?_
     simp only [go_sem, qc, qf, qa, qd];apply hK
     exact ⟨_, _, ⟨(⟨y8.fTag, 0, y22.fN, []⟩ : GRaw), rfl, rfl, h⟩, (.t [0, 1, 3] false)⟩
   rw [if_neg hc44] at h;have t46 := eq_false hc44
   refine rg tok [1, 4, 5, 6, 7, 8, 64] fun K hK => ?_
   simp only [go_sem, qc, qa, t46];apply hK
   refine zw rfl (fun hc47 => ?_) (fun hc47 => ?_)
   · rw [if_pos hc47] at h;have t48 := eq_true hc47
     refine rgE tok [1, 4, 5, 6, 8] fun K hK => ?_
     simp only [go_sem, qc, qf, qa, qd, t48];apply hK
     exact ⟨_, _, ⟨(⟨y8.fTag, 1, 0, y22.fS⟩ : GRaw), rfl, rfl, h⟩, (.t [0, 1, 3] false)⟩
   rw [if_neg hc47] at h;have t49 := eq_false hc47
   refine rc [1, 4, 5, 6, 8, 9, 10] fun K hK => ?_
   obtain ⟨r50, hr50, h⟩ := bind_some h;refine zj tok 1 ?_;simp only [go_sem, qc, qf, qa, qd, t49];refine clN rfl rfl rfl (ev_ref11_encode y22 r50 hr50 _) ?_;refine rnN 5 ?_;refine nkN hK ?_
   refine za fun Z51 hZ51 => ?_
   refine rgN [1, 4, 5, 6, 8, 9, 10, 53] ?_;refine zw rfl (fun hc52 => ?_) (fun hc52 => ?_)
   · rw [if_neg hc52] at h;have t53 := eq_false hc52
     refine rg tok [2, 3] fun K hK => ?_
     simp only [go_sem, qc, qa, t53];apply hK
     cases h;exact rtA
   rw [if_pos hc52] at h;have t54 := eq_true hc52;apply zd;apply hZ51;have f55 := vaq (T := tab) (src := 34) (dst := 9) rfl rfl rfl rfl rfl rfl r50.1
   refine rgE tok [1, 4, 5, 6, 8] fun K hK => ?_
   simp only [go_sem, qc, qf, qa, qd, t54, f55];apply hK
   exact ⟨_, _, ⟨(⟨y8.fTag, 1, 0, r50.1⟩ : GRaw), rfl, rfl, h⟩, (.t [0, 1, 3] false)⟩
 rintro _ _ ⟨m2_36, rfl, rfl, h⟩;unfold zR.j37 at h
 refine za fun Z38 hZ38 => ?_
 refine rgN [1, 4, 5, 6, 8, 72] ?_;refine zw rfl (fun hc39 => ?_) (fun hc39 => ?_)
 · rw [if_pos hc39] at h;have t40 := eq_true hc39
   refine rg tok [2, 3] fun K hK => ?_
   simp only [go_sem, qc, qa, t40];apply hK
   cases h;exact rtA
 rw [if_neg hc39] at h;have t41 := eq_false hc39;apply zd;apply hZ38;obtain ⟨_u42, hu42, h⟩ := bind_some h;have gu42 := yi hu42;have f43 := (zv E28.len l16)
 refine rgE tok [1, 4, 5, 6] fun K hK => ?_
 simp only [go_sem, qc, qf, qa, qd, qt, zN, z6, q9, qY, true_and, ue, z8, zO, yj, t41, gu42, f43, yB, ua, qW, AV.one, qU, qA, qj, ql, qn, qE];apply hK
 apply hZ29
 refine rgE tok [1, 4, 5, 6] fun K hK => ?_
 simp only [go_sem, qc, qa, hw22];apply hK
 exact ⟨_, _, _, qs q22.length, ⟨p22 ++ [y22], q22, x18 + 1, l16 ++ [m2_36], v17 + 1, rfl, rfl, rfl, hE'22, hi'22, h⟩, (.t [0, 1] false)⟩
end
section
set_option maxRecDepth 4000
set_option maxHeartbeats 1000000
open AM
mutual
def yJ : Nat → GTree → Option (List UInt8 × Int)
 | 0, _ => none
 | k + 1, a0 => yJ.body (yJ k) (zR k) a0
def zR : Nat → GTree → Option (List GRaw × Int)
 | 0, _ => none
 | k + 1, a0 => zR.body (yJ k) (zR k) a0
end
theorem yJ.all (k : Nat) : (∀ (a0 : GTree) (r : List UInt8 × Int), yJ k a0 = some r → ACalls qh 54 [.agg (cellsGTree a0)] [] (fun r' _ => r' = .tup [.ds true (qe encB r.1) (qb r.1) false, .int .i64 r.2])) ∧ (∀ (a0 : GTree) (r : List GRaw × Int), zR k a0 = some r → ACalls qh 50 [.agg (cellsGTree a0)] [] (fun r' _ => r' = .tup [.ds true (qe encGRaw r.1) (qb r.1) false, .int .i64 r.2])) := by
 induction k with
 | zero => exact ⟨(fun a0 r h => by simp only [yJ] at h; cases h), (fun a0 r h => by simp only [zR] at h; cases h)⟩
 | succ k ih => exact ⟨(fun a0 r h => yJ.step _ _ ih.1 ih.2 a0 r (by simpa only [yJ] using h)), (fun a0 r h => zR.step _ _ ih.1 ih.2 a0 r (by simpa only [zR] using h))⟩
theorem yJ.ev (k : Nat) (a0 : GTree) (r : List UInt8 × Int) (h : yJ k a0 = some r) (σ : Store) : ACalls qh 54 [.agg (cellsGTree a0)] σ (fun r' σ' => r' = .tup [.ds true (qe encB r.1) (qb r.1) false, .int .i64 r.2] ∧ σ' = σ) :=
 ((yJ.all k).1 a0 r h).c σ
def xi.l4 (a1 : List UInt8) : List GMethod → Int → GMethod × Bool
 | [], x2 => ((⟨[], [], []⟩ : GMethod), false)
 | y4 :: q4, x2 => (if y4.fName = a1 then (y4, true) else ((xi.l4 a1 q4) (x2 + 1)))
def xi (a0 : GSchema) (a1 : List UInt8) : GMethod × Bool :=
 (xi.l4 a1 a0.fMethods 0)
theorem xi.ok (a0 : GSchema) (a1 : List UInt8) (r : GMethod × Bool) (h : xi a0 a1 = r) : ACalls qh 53 [.agg (encGSchema a0), .str a1] [] (fun r' _ => r' = .tup [.agg (encGMethod r.1), .bool r.2]) := by
 refine zf (rs := [.cell 4 75, .tmp 5]) tok Tryz.func53 rfl Tryz.ntmps53 rfl Tryz.call53 (by simp) ?_;refine zl [(0, .agg (encGSchema a0)), (1, .str a1)] ⟨rfl, rfl, trivial⟩ ?_;unfold xi at h
 refine rg tok [1, 2, 4] fun K hK => ?_
 simp only [go_sem, qc, qa, qd, reduceCtorEq, encGSchema];apply hK
 refine za fun Z1 hZ1 => ?_
 refine rgN [1, 4, 9, 10, 11] ?_;apply ze
 refine yU 9 fun hb4 => ?_
 replace hb4 : qb a0.fMethods ≤ 9223372036854775807 := hb4.1;refine zr (fun m L τ => ∃ (p4 q4 : List GMethod) (x2 : Int), m = qb q4 ∧ L = [(1, .str a1), (4, .op 0 0 0), (9, .ds true (qe encGMethod a0.fMethods) (qb a0.fMethods) false), (10, .int .i64 (qb a0.fMethods : Int)), (11, .int .i64 x2)] ∧ τ = [.cells 0 [.str [], .str [], .str []]] ∧ a0.fMethods = p4 ++ q4 ∧ x2 = (qb p4 : Int) ∧ xi.l4 a1 q4 x2 = r) _ ⟨[], a0.fMethods, 0, rfl, rfl, rfl, rfl, rfl, h⟩ (.t [1] false) ?_;rintro m L τ ⟨p4, q4, x2, rfl, rfl, rfl, hE4, hi4, h⟩
 rcases q4 with _ | ⟨y4, q4⟩
 · have hz4 := yq hE4 hi4;simp only [xi.l4] at h
   refine rg tok [1, 4, 9, 10, 11, 12] fun K hK => ?_
   simp only [go_sem, qc, qa, hz4];apply hK
   refine za fun Z5 hZ5 => ?_
   refine zo rfl ?_;apply zy;apply hZ1;refine rgN [4, 5] ?_;cases h;exact rtA
 obtain ⟨hz4, hw4, hx4, hE'4, hi'4⟩ := zX hE4 hi4 hb4;simp only [xi.l4] at h
 refine rg tok [1, 4, 9, 10, 11, 12] fun K hK => ?_
 simp only [go_sem, qc, qa, hz4];apply hK
 refine za fun Z6 hZ6 => ?_
 refine zq rfl ?_;apply zd;apply hZ6
 refine za fun Z7 hZ7 => ?_
 apply ze;have f8 := E24.idxS hx4;have f9 := E24.loadS rfl rfl hx4
 refine rg tok [1, 4, 7, 9, 10, 11] fun K hK => ?_
 simp only [go_sem, qc, qf, qa, qd, encGMethod, f8, f9];apply hK
 refine rgN [1, 4, 7, 9, 10, 11, 18] ?_;refine zw rfl (fun hc10 => ?_) (fun hc10 => ?_)
 · rw [if_pos hc10] at h;have t11 := eq_true hc10
   refine rg tok [4, 5] fun K hK => ?_
   simp only [go_sem, qc, qf, qa, qd, t11];apply hK
   cases h;exact rtA
 rw [if_neg hc10] at h;have t12 := eq_false hc10;apply zd;apply hZ7
 refine rgE tok [1, 4, 9, 10, 11] fun K hK => ?_
 simp only [go_sem, qc, qa, hw4, t12];apply hK
 exact ⟨_, _, _, qs q4.length, ⟨p4 ++ [y4], q4, x2 + 1, rfl, rfl, rfl, hE'4, hi'4, h⟩, (.t [0] false)⟩
theorem xi.ev (a0 : GSchema) (a1 : List UInt8) (r : GMethod × Bool) (h : xi a0 a1 = r) (σ : Store) : ACalls qh 53 [.agg (encGSchema a0), .str a1] σ (fun r' σ' => r' = .tup [.agg (encGMethod r.1), .bool r.2] ∧ σ' = σ) :=
 (xi.ok a0 a1 r h).c σ
def yI.j8 (a0 : GSchema) (a1 : xH) (x7 : List UInt8) : Option (xH × Bool) :=
 (grd (qb a1.fBody ≤ 9223372036854775807)).bind fun _u9 => (xX a0 x7 a1.fBody).bind fun r11 => (if r11.2 = 0 then (xW r11.1).bind fun r16 => (if r16.2 = 0 then some ((⟨a1.fKind, a1.fFrom, a1.fTo, a1.fID, a1.fVersion, a1.fMethod, a1.fErr, r16.1⟩ : xH), true) else some ((⟨0, 0, 0, 0, 0, [], 0, []⟩ : xH), false)) else some ((⟨0, 0, 0, 0, 0, [], 0, []⟩ : xH), false))
def yI.j23 (a0 : GSchema) (a1 : xH) (r6 : GMethod × Bool) (x22 : Bool) : Option (xH × Bool) :=
 (if x22 = true then some (a1, true) else (if a1.fKind = 4 then (yI.j8 a0 a1 r6.1.fOut) else (yI.j8 a0 a1 r6.1.fIn)))
def yI (a0 : GSchema) (a1 : xH) : Option (xH × Bool) :=
 (zm a0).bind fun r2 => (if r2 = 0 then bnd (xi a0 a1.fMethod) fun r6 => (if (!r6.2) = true then (yI.j23 a0 a1 r6 (!r6.2)) else (yI.j23 a0 a1 r6 ((!(decide (a1.fKind = 3))) && ((!(decide (a1.fKind = 4))) || (!(decide (a1.fErr = 0))))))) else some ((⟨0, 0, 0, 0, 0, [], 0, []⟩ : xH), false))
theorem yI.ok (a0 : GSchema) (a1 : xH) (r : xH × Bool) (h : yI a0 a1 = some r) : ACalls qh 28 [.agg (encGSchema a0), .agg (encGPacket a1)] [] (fun r' _ => r' = .tup [.agg (encGPacket r.1), .bool r.2]) := by
 refine zf (rs := [.cell 4 66, .tmp 5]) tok Tryz.func28 rfl Tryz.ntmps28 rfl Tryz.call28 (by simp) ?_;refine zl [(0, .agg (encGSchema a0)), (1, .agg (encGPacket a1))] ⟨rfl, rfl, trivial⟩ ?_;unfold yI at h
 refine rg tok [2, 3, 4] fun K hK => ?_
 simp only [go_sem, qc, qa, qd, reduceCtorEq, encGPacket, encGSchema];apply hK
 refine za fun Z1 hZ1 => ?_
 refine rc [2, 3, 4, 14] fun K hK => ?_
 obtain ⟨r2, hr2, h⟩ := bind_some h;refine rnN 1 ?_;refine clN rfl rfl rfl (zm.ev a0 r2 hr2 _) ?_;refine rnN 1 ?_;refine nkN hK ?_;refine zw rfl (fun hc3 => ?_) (fun hc3 => ?_)
 · rw [if_neg hc3] at h;have t4 := eq_false hc3
   refine rg tok [4, 5] fun K hK => ?_
   simp only [go_sem, qc, qf, qa, qd, t4];apply hK
   cases h;exact rtA
 rw [if_pos hc3] at h;have t5 := eq_true hc3;apply zd;apply hZ1
 refine rc [2, 3, 4, 6, 7] fun K hK => ?_
 obtain ⟨r6, hr6, h⟩ := zS h;refine zj tok 3 ?_;simp only [go_sem, qc, qf, qa, qd, t5];refine clN rfl rfl rfl (xi.ev a0 a1.fMethod r6 hr6 _) ?_;refine zj tok 6 ?_;simp only [go_sem, qc, qf, qa, qd, encGMethod];refine nkN hK ?_;refine rgN [2, 3, 4, 6, 7, 8] ?_;refine xr (fun L τ => ∃ (x7 : List UInt8), L = [(2, .op 0 0 0), (3, .op 1 0 0), (4, .op 2 0 0), (8, .str x7)] ∧ τ = [.cells 0 (encGSchema a0), .cells 0 (encGPacket a1), .cells 0 [.int .i64 0, .int .i64 0, .int .i64 0, .int .i64 0, .int .i64 0, .str [], .int .i64 0, .str []]] ∧ yI.j8 a0 a1 x7 = some r) ?_ ?_
 · apply ze;refine xr (fun L τ => ∃ (x22 : Bool), L = [(2, .op 0 0 0), (3, .op 1 0 0), (4, .op 2 0 0), (6, .op 3 0 0), (8, .str r6.1.fIn), (25, .bool x22)] ∧ τ = [.cells 0 (encGSchema a0), .cells 0 (encGPacket a1), .cells 0 [.int .i64 0, .int .i64 0, .int .i64 0, .int .i64 0, .int .i64 0, .str [], .int .i64 0, .str []], .cells 0 [.str r6.1.fName, .str r6.1.fIn, .str r6.1.fOut]] ∧ yI.j23 a0 a1 r6 x22 = some r) ?_ ?_
   · refine rgN [2, 3, 4, 6, 8, 25] ?_;refine zn (b := (!r6.2)) rfl (fun hc28 => ?_) (fun hc28 => ?_)
     · rw [if_pos hc28] at h;apply zd;exact ⟨_, _, ⟨!r6.2, rfl, rfl, h⟩, .s⟩
     rw [xP hc28] at h
     refine rcE [2, 3, 4, 6, 8, 25] fun K hK => ?_
     refine rnN 4 ?_;refine zh 9 (fun L τ => L = [(2, .op 0 0 0), (3, .op 1 0 0), (4, .op 2 0 0), (6, .op 3 0 0), (8, .str r6.1.fIn), (25, .bool (!r6.2)), (40, .bool ((!(decide (a1.fKind = 3))) && ((!(decide (a1.fKind = 4))) || (!(decide (a1.fErr = 0))))))] ∧ τ = [.cells 0 (encGSchema a0), .cells 0 (encGPacket a1), .cells 0 [.int .i64 0, .int .i64 0, .int .i64 0, .int .i64 0, .int .i64 0, .str [], .int .i64 0, .str []], .cells 0 [.str r6.1.fName, .str r6.1.fIn, .str r6.1.fOut]]) ?_ ?_
     · refine yF 31 rfl (fun hg31 => ?_) (fun hg31 => ?_)
       · have t29 := eq_false hg31;refine rnN 4 ?_;refine zh 4 (fun L τ => L = [(2, .op 0 0 0), (3, .op 1 0 0), (4, .op 2 0 0), (6, .op 3 0 0), (8, .str r6.1.fIn), (25, .bool (!r6.2)), (31, .bool true), (39, .bool ((!(decide (a1.fKind = 4))) || (!(decide (a1.fErr = 0)))))] ∧ τ = [.cells 0 (encGSchema a0), .cells 0 (encGPacket a1), .cells 0 [.int .i64 0, .int .i64 0, .int .i64 0, .int .i64 0, .int .i64 0, .str [], .int .i64 0, .str []], .cells 0 [.str r6.1.fName, .str r6.1.fIn, .str r6.1.fOut]]) ?_ ?_
         · refine yF 35 rfl (fun hg35 => ?_) (fun hg35 => ?_)
           · have t30 := eq_false hg35;refine rnN 4 ?_;refine zb ⟨rfl, _, _, ⟨rfl, rfl⟩, .p t30⟩
           have t31 := eq_true hg35;refine rnN 4 ?_;refine zb ⟨rfl, _, _, ⟨rfl, rfl⟩, .p t31⟩
         rintro _ _ ⟨rfl, rfl⟩;refine rnN 1 ?_;refine zb ⟨rfl, _, _, ⟨rfl, rfl⟩, .p t29⟩
       have t32 := eq_true hg31;refine rnN 9 ?_;refine zb ⟨rfl, _, _, ⟨rfl, rfl⟩, .p t32⟩
     rintro _ _ ⟨rfl, rfl⟩;refine rnN 1 ?_;refine nkN hK ?_;exact ⟨_, _, ⟨((!(decide (a1.fKind = 3))) && ((!(decide (a1.fKind = 4))) || (!(decide (a1.fErr = 0))))), rfl, rfl, h⟩, .s⟩
   rintro _ _ ⟨x22, rfl, rfl, h⟩;unfold yI.j23 at h;refine zn (b := x22) rfl (fun hc24 => ?_) (fun hc24 => ?_)
   · rw [if_pos hc24] at h;refine rgN [4, 5] ?_;cases h;exact rtA
   rw [xP hc24] at h;refine rgN [2, 3, 4, 6, 8, 42] ?_;refine zw rfl (fun hc25 => ?_) (fun hc25 => ?_)
   · rw [if_pos hc25] at h;have t26 := eq_true hc25
     refine rgE tok [2, 3, 4, 8] fun K hK => ?_
     simp only [go_sem, qc, qa, qd, t26];apply hK
     exact ⟨_, _, ⟨r6.1.fOut, rfl, rfl, h⟩, (.t [0, 1, 2] false)⟩
   rw [if_neg hc25] at h;have t27 := eq_false hc25;apply zd;exact ⟨_, _, ⟨r6.1.fIn, rfl, rfl, h⟩, (.t [0, 1, 2] false)⟩
 rintro _ _ ⟨x7, rfl, rfl, h⟩;unfold yI.j8 at h
 refine rc [3, 4, 9, 10] fun K hK => ?_
 obtain ⟨_u9, hu9, h⟩ := bind_some h;have gu9 := wy hu9;have gu9t := eq_true gu9;have f10 := conv_s2b (T := tab) (src := 9) (dst := 34) rfl rfl rfl rfl rfl rfl (wy hu9);obtain ⟨r11, hr11, h⟩ := bind_some h;refine zj tok 5 ?_;simp only [go_sem, qc, qf, qa, qd, f10];refine vab (L := [(3, .op 0 0 0), (4, .op 1 0 0), (49, .agg (encGSchema a0)), (50, .str x7), (53, .ds true (qe encB a1.fBody) (qb a1.fBody) false)]) (τ := [.cells 0 (encGPacket a1), .cells 0 [.int .i64 0, .int .i64 0, .int .i64 0, .int .i64 0, .int .i64 0, .str [], .int .i64 0, .str []]]) (.t [1, 2] false) ?_;refine clN rfl rfl rfl (xX.ev a0 x7 a1.fBody r11 hr11 _) ?_;refine zj tok 6 ?_;simp only [go_sem, qc, qf, qa, qd, cellsGTree, encGSchema];refine nkN hK ?_
 refine za fun Z12 hZ12 => ?_
 refine rgN [3, 4, 9, 58] ?_;refine zw rfl (fun hc13 => ?_) (fun hc13 => ?_)
 · rw [if_neg hc13] at h;have t14 := eq_false hc13
   refine rg tok [4, 5] fun K hK => ?_
   simp only [go_sem, qc, qf, qa, qd, t14];apply hK
   cases h;exact rtA
 rw [if_pos hc13] at h;have t15 := eq_true hc13;apply zd;apply hZ12
 refine rc [3, 4, 10, 11] fun K hK => ?_
 obtain ⟨r16, hr16, h⟩ := bind_some h;refine zj tok 1 ?_;simp only [go_sem, qc, qf, qa, qd, t15];refine clN rfl rfl rfl (xW.ev r11.1 r16 hr16 _) ?_;refine rnN 5 ?_;refine nkN hK ?_
 refine za fun Z17 hZ17 => ?_
 refine rgN [3, 4, 11, 66] ?_;refine zw rfl (fun hc18 => ?_) (fun hc18 => ?_)
 · rw [if_neg hc18] at h;have t19 := eq_false hc18
   refine rg tok [4, 5] fun K hK => ?_
   simp only [go_sem, qc, qf, qa, qd, t19];apply hK
   cases h;exact rtA
 rw [if_pos hc18] at h;have t20 := eq_true hc18;apply zd;apply hZ17;have f21 := vaq (T := tab) (src := 34) (dst := 9) rfl rfl rfl rfl rfl rfl r16.1
 refine rg tok [3, 4] fun K hK => ?_
 simp only [go_sem, qc, qf, qa, qd, t20, f21];apply hK
 refine rgN [4, 5] ?_;cases h;exact rtA
theorem yI.ev (a0 : GSchema) (a1 : xH) (r : xH × Bool) (h : yI a0 a1 = some r) (σ : Store) : ACalls qh 28 [.agg (encGSchema a0), .agg (encGPacket a1)] σ (fun r' σ' => r' = .tup [.agg (encGPacket r.1), .bool r.2] ∧ σ' = σ) :=
 (yI.ok a0 a1 r h).c σ
def xS  : Option Bool :=
 (yI (⟨[97], [(⟨[109], ([] : List GField), ([] : List Int)⟩ : GMessage)], ([] : List GEnumeration), [(⟨[99], [109], [109]⟩ : GMethod)]⟩ : GSchema) (⟨1, 0, 0, 0, 0, [], 0, [1]⟩ : xH)).bind fun r1 => (yI (⟨[97], [(⟨[109], ([] : List GField), ([] : List Int)⟩ : GMessage)], ([] : List GEnumeration), [(⟨[99], [109], [109]⟩ : GMethod)]⟩ : GSchema) (⟨3, 0, 0, 0, 0, [99], 0, [4, 2, 2, 2]⟩ : xH)).bind fun r2 => some (((r1.2 && r2.2) && (decide (r1.1.fBody = [1]))) && (decide (r2.1.fBody = [2, 2, 4, 2])))
theorem xS.ok  (r : Bool) (h : xS = some r) : ACalls qh 27 [] [] (fun r' _ => r' = .bool r) := by
 refine zf (rs := [.tmp 0]) tok Tryz.func27 rfl Tryz.ntmps27 rfl Tryz.call27 (by simp) ?_;refine zl [] trivial ?_;unfold xS at h;refine rgN [] ?_
 refine rg tok [1] fun K hK => ?_
 simp only [go_sem, qc, qf, qa, qd, qt, zN, z6, q9, qY, true_and, ue];apply hK
 refine rc [1, 2, 3] fun K hK => ?_
 obtain ⟨r1, hr1, h⟩ := bind_some h;refine rnN 2 ?_;refine clN rfl rfl rfl (yI.ok (⟨[97], [(⟨[109], ([] : List GField), ([] : List Int)⟩ : GMessage)], ([] : List GEnumeration), [(⟨[99], [109], [109]⟩ : GMethod)]⟩ : GSchema) (⟨1, 0, 0, 0, 0, [], 0, [1]⟩ : xH) r1 hr1).ld ?_;refine zj tok 6 ?_;simp only [go_sem, qc, qf, qa, qd, encGPacket];refine nkN hK ?_
 refine rc [2, 3, 4, 5] fun K hK => ?_
 obtain ⟨r2, hr2, h⟩ := bind_some h;refine rnN 2 ?_;refine clN rfl rfl rfl (yI.ok (⟨[97], [(⟨[109], ([] : List GField), ([] : List Int)⟩ : GMessage)], ([] : List GEnumeration), [(⟨[99], [109], [109]⟩ : GMethod)]⟩ : GSchema) (⟨3, 0, 0, 0, 0, [99], 0, [4, 2, 2, 2]⟩ : xH) r2 hr2).ld ?_;refine zj tok 6 ?_;simp only [go_sem, qc, qf, qa, qd, encGPacket];refine nkN hK ?_
 refine rc [0] fun K hK => ?_
 refine rnN 2 ?_;refine zh 2 (fun L τ => L = [(2, .op 3 0 0), (4, .op 4 0 0), (26, .bool (r1.2 && r2.2))] ∧ τ = [.cells 0 [.str [109], .ds true [] 0 true, .ds true [] 0 true], .cells 0 [.str [99], .str [109], .str [109]], .cells 0 [.str [97], .os true 3 0 0 0 1 true, .ds true [] 0 true, .os true 3 1 0 0 1 true], .cells 0 (encGPacket r1.1), .cells 0 (encGPacket r2.1)]) ?_ ?_
 · refine zI (b := r1.2) 24 rfl (fun hg24 => ?_) (fun hg24 => ?_)
   · refine rnN 2 ?_;refine zb ⟨rfl, _, _, ⟨rfl, rfl⟩, .b hg24⟩
   refine rnN 2 ?_;refine zb ⟨rfl, _, _, ⟨rfl, rfl⟩, .b hg24⟩
 rintro _ _ ⟨rfl, rfl⟩;refine rnN 1 ?_;refine zh 4 (fun L τ => L = [(4, .op 4 0 0), (31, .bool ((r1.2 && r2.2) && (decide (r1.1.fBody = [1]))))] ∧ τ = [.cells 0 [.str [109], .ds true [] 0 true, .ds true [] 0 true], .cells 0 [.str [99], .str [109], .str [109]], .cells 0 [.str [97], .os true 3 0 0 0 1 true, .ds true [] 0 true, .os true 3 1 0 0 1 true], .cells 0 (encGPacket r1.1), .cells 0 (encGPacket r2.1)]) ?_ ?_
 · refine zI (b := (r1.2 && r2.2)) 27 rfl (fun hg27 => ?_) (fun hg27 => ?_)
   · refine rnN 4 ?_;refine zb ⟨rfl, _, _, ⟨rfl, rfl⟩, .b hg27⟩
   refine rnN 4 ?_;refine zb ⟨rfl, _, _, ⟨rfl, rfl⟩, .b hg27⟩
 rintro _ _ ⟨rfl, rfl⟩;refine rnN 1 ?_;refine zh 4 (fun L τ => L = [(36, .bool (((r1.2 && r2.2) && (decide (r1.1.fBody = [1]))) && (decide (r2.1.fBody = [2, 2, 4, 2]))))] ∧ τ = [.cells 0 [.str [109], .ds true [] 0 true, .ds true [] 0 true], .cells 0 [.str [99], .str [109], .str [109]], .cells 0 [.str [97], .os true 3 0 0 0 1 true, .ds true [] 0 true, .os true 3 1 0 0 1 true], .cells 0 (encGPacket r1.1), .cells 0 (encGPacket r2.1)]) ?_ ?_
 · refine zI (b := ((r1.2 && r2.2) && (decide (r1.1.fBody = [1])))) 32 rfl (fun hg32 => ?_) (fun hg32 => ?_)
   · refine rnN 4 ?_;refine zb ⟨rfl, _, _, ⟨rfl, rfl⟩, .b hg32⟩
   refine rnN 4 ?_;refine zb ⟨rfl, _, _, ⟨rfl, rfl⟩, .b hg32⟩
 rintro _ _ ⟨rfl, rfl⟩;refine rnN 1 ?_;refine nkN hK ?_;cases h;exact rtA
theorem xS.ev  (r : Bool) (h : xS = some r) (σ : Store) : ACalls qh 27 [] σ (fun r' σ' => r' = .bool r ∧ σ' = σ) :=
 (xS.ok  r h).c σ
def wj (a0 : GTree) : Option (List UInt8 × Int) :=
 (if a0.fKind = 3 then (wF a0).bind fun r2 => some (!r2) else some true).bind fun c2 => (if c2 = true then some (([] : List UInt8), 1) else (yJ rounds a0).bind fun r7 => some (r7.1, r7.2))
theorem wj.ok (a0 : GTree) (r : List UInt8 × Int) (h : wj a0 = some r) : ACalls qh 30 [.agg (cellsGTree a0)] [] (fun r' _ => r' = .tup [.ds true (qe encB r.1) (qb r.1) false, .int .i64 r.2]) := by
 refine zf (rs := [.tmp 2, .tmp 3]) tok Tryz.func30 rfl Tryz.ntmps30 rfl Tryz.call30 (by simp) ?_;refine zl [(0, .agg (cellsGTree a0))] ⟨rfl, trivial⟩ ?_;unfold wj at h
 refine rg tok [1] fun K hK => ?_
 simp only [go_sem, qc, qa, qd, reduceCtorEq, cellsGTree];apply hK
 refine za fun Z1 hZ1 => ?_
 refine rc [1, 11] fun K hK => ?_
 refine rnN 4 ?_;obtain ⟨c2, hc2, h⟩ := bind_some h;refine zh 4 (fun L τ => L = [(1, .op 0 0 0), (11, .bool c2)] ∧ τ = [.cells 0 (cellsGTree a0)]) ?_ ?_
 · refine yF 7 rfl (fun hg7 => ?_) (fun hg7 => ?_)
   · have t3 := eq_false hg7;rw [if_neg hg7] at hc2;refine rnN 4 ?_;cases hc2;refine zb ⟨rfl, _, _, ⟨rfl, rfl⟩, .p t3⟩
   have t4 := eq_true hg7;rw [if_pos hg7] at hc2;obtain ⟨r5, hr5, hc2⟩ := bind_some hc2;refine rnN 1 ?_;refine clN rfl rfl rfl (wF.ev a0 r5 hr5 _) ?_;refine rnN 2 ?_;cases hc2;refine zb ⟨rfl, _, _, ⟨rfl, rfl⟩, .p t4⟩
 rintro _ _ ⟨rfl, rfl⟩;refine nkN hK ?_;refine zn (b := c2) rfl (fun hc6 => ?_) (fun hc6 => ?_)
 · rw [if_pos hc6] at h;refine rgN [2, 3] ?_;cases h;exact rtA
 rw [xP hc6] at h;apply zd;apply hZ1
 refine rc [2, 3] fun K hK => ?_
 obtain ⟨r7, hr7, h⟩ := bind_some h;refine rnN 1 ?_;refine clN rfl rfl rfl (yJ.ev rounds a0 r7 hr7 _) ?_;refine rnN 4 ?_;refine nkN hK ?_;cases h;exact rtA
theorem wj.ev (a0 : GTree) (r : List UInt8 × Int) (h : wj a0 = some r) (σ : Store) : ACalls qh 30 [.agg (cellsGTree a0)] σ (fun r' σ' => r' = .tup [.ds true (qe encB r.1) (qb r.1) false, .int .i64 r.2] ∧ σ' = σ) :=
 (wj.ok a0 r h).c σ
def xj.j3 (m0_1 : xH) (x2 : Bool) : Option (xH × Bool) :=
 some (m0_1, x2)
def xj.l10 : List GSchema → Int → xH → Bool → Option (xH × Bool)
 | [], x6, m0_4, x5 => (xj.j3 m0_4 x5)
 | y10 :: q10, x6, m0_4, x5 => (yI y10 m0_4).bind fun r16 => (if (!r16.2) = true then (xj.j3 r16.1 r16.2) else ((xj.l10 q10) (x6 + 1) r16.1 r16.2))
def xj (a0 : List GSchema) (a1 : xH) : Option (xH × Bool) :=
 (xj.l10 a0 0 a1 true)
theorem xj.ok (a0 : List GSchema) (a1 : xH) (r : xH × Bool) (h : xj a0 a1 = some r) : ACalls qh 31 [.ds true (qe encGSchema a0) (qb a0) false, .agg (encGPacket a1)] [] (fun r' _ => r' = .tup [.agg (encGPacket r.1), .bool r.2]) := by
 refine zf (rs := [.cell 4 66, .tmp 5]) tok Tryz.func31 rfl Tryz.ntmps31 rfl Tryz.call31 (by simp) ?_;refine zl [(0, .ds true (qe encGSchema a0) (qb a0) false), (1, .agg (encGPacket a1))] ⟨rfl, rfl, trivial⟩ ?_;unfold xj at h
 refine rg tok [0, 3, 4] fun K hK => ?_
 simp only [go_sem, qc, qa, qd, reduceCtorEq, encGPacket];apply hK
 refine awp_scope ?_;refine rgN [0, 3, 4, 6] ?_
 refine za fun K hK => awp_label ?_
 apply hK
 refine xr (fun L τ => ∃ (m0_1 : xH) (x2 : Bool), L = [(3, .op 0 0 0), (4, .op 1 0 0), (6, .bool x2)] ∧ τ = [.cells 0 (encGPacket m0_1), .cells 0 [.int .i64 0, .int .i64 0, .int .i64 0, .int .i64 0, .int .i64 0, .str [], .int .i64 0, .str []]] ∧ xj.j3 m0_1 x2 = some r) ?_ ?_
 · refine rgN [3, 4, 6, 9, 10, 11] ?_;apply ze
   refine yU 9 fun hb10 => ?_
   replace hb10 : qb a0 ≤ 9223372036854775807 := hb10.1;refine zr (fun m L τ => ∃ (p10 q10 : List GSchema) (x6 : Int) (m0_4 : xH) (x5 : Bool), m = qb q10 ∧ L = [(3, .op 0 0 0), (4, .op 1 0 0), (6, .bool x5), (9, .ds true (qe encGSchema a0) (qb a0) false), (10, .int .i64 (qb a0 : Int)), (11, .int .i64 x6)] ∧ τ = [.cells 0 (encGPacket m0_4), .cells 0 [.int .i64 0, .int .i64 0, .int .i64 0, .int .i64 0, .int .i64 0, .str [], .int .i64 0, .str []]] ∧ a0 = p10 ++ q10 ∧ x6 = (qb p10 : Int) ∧ xj.l10 q10 x6 m0_4 x5 = some r) _ ⟨[], a0, 0, a1, true, rfl, rfl, rfl, rfl, rfl, h⟩ .s ?_;rintro m L τ ⟨p10, q10, x6, m0_4, x5, rfl, rfl, rfl, hE10, hi10, h⟩
   rcases q10 with _ | ⟨y10, q10⟩
   · have hz10 := yq hE10 hi10;simp only [xj.l10] at h
     refine rg tok [3, 4, 6, 9, 10, 11, 12] fun K hK => ?_
     simp only [go_sem, qc, qa, hz10];apply hK
     refine za fun Z11 hZ11 => ?_
     refine zo rfl ?_;apply zy;exact ⟨_, _, ⟨m0_4, x5, rfl, rfl, h⟩, .s⟩
   obtain ⟨hz10, hw10, hx10, hE'10, hi'10⟩ := zX hE10 hi10 hb10;simp only [xj.l10] at h
   refine rg tok [3, 4, 6, 9, 10, 11, 12] fun K hK => ?_
   simp only [go_sem, qc, qa, hz10];apply hK
   refine za fun Z12 hZ12 => ?_
   refine zq rfl ?_;apply zd;apply hZ12
   refine za fun Z13 hZ13 => ?_
   apply ze;have f14 := E70.idxS hx10;have f15 := E70.loadS rfl rfl hx10
   refine rg tok [3, 4, 8, 9, 10, 11] fun K hK => ?_
   simp only [go_sem, qc, qf, qa, qd, encGSchema, f14, f15];apply hK
   refine rc [3, 4, 6, 9, 10, 11] fun K hK => ?_
   obtain ⟨r16, hr16, h⟩ := bind_some h;refine zj tok 2 ?_;simp only [go_sem, qc, qf, qa, qd, encGPacket];refine clN rfl rfl rfl (yI.ev y10 m0_4 r16 hr16 _) ?_;refine zj tok 5 ?_;simp only [go_sem, qc, qf, qa, qd, encGPacket];refine nkN hK ?_;refine rgN [3, 4, 6, 9, 10, 11, 22] ?_;refine zn (b := (!r16.2)) rfl (fun hc17 => ?_) (fun hc17 => ?_)
   · rw [if_pos hc17] at h;apply zy;exact ⟨_, _, ⟨r16.1, r16.2, rfl, rfl, h⟩, (.t [0, 1] false)⟩
   rw [xP hc17] at h;apply zd;apply hZ13
   refine rgE tok [3, 4, 6, 9, 10, 11] fun K hK => ?_
   simp only [go_sem, qc, qa, hw10];apply hK
   exact ⟨_, _, _, qs q10.length, ⟨p10 ++ [y10], q10, x6 + 1, r16.1, r16.2, rfl, rfl, rfl, hE'10, hi'10, h⟩, (.t [0, 1] false)⟩
 rintro _ _ ⟨m0_1, x2, rfl, rfl, h⟩;unfold xj.j3 at h;refine rgN [4, 5] ?_;cases h;exact rtA
def law25_ProxySelf.l26 (a0 : GSchema) (a3 : Int) (y8 : GMethod) (r12 : List UInt8 × Int) : Nat → List GSchema → Int → Option Bool
 | 0, _, _ => none
 | k26 + 1, l20, x22 => (xd a3 5).bind fun r28 => (if x22 < r28 then (yf a0).bind fun r32 => (Yf (qb l20 + 1) 88).bind fun _u33 => ((law25_ProxySelf.l26 a0 a3 y8 r12 k26) (l20 ++ [r32]) (IntKind.i64.wrap (x22 + 1))) else (xj l20 (⟨3, 1, 0, 0, 2, y8.fName, 0, r12.1⟩ : xH)).bind fun r36 => (if (r36.2 && (decide (r36.1.fKind = 3) && (decide (r36.1.fFrom = 1) && (decide (r36.1.fTo = 0) && (decide (r36.1.fID = 0) && (decide (r36.1.fVersion = 2) && (decide (r36.1.fMethod = y8.fName) && (decide (r36.1.fErr = 0) && decide (r36.1.fBody = r12.1))))))))) = true then (xS).bind fun r37 => some r37 else some false).bind fun c37 => some c37)
def law25_ProxySelf (a0 : GSchema) (a1 : Int) (a2 : List Int) (a3 : Int) : Option Bool :=
 (zJ a0).bind fun r2 => (if (!r2) = true then some true else (xa a0).bind fun r3 => some (!(decide (r3 = 0)))).bind fun c3 => (if ((c3 || (decide ((qb a0.fMethods : Int) = 0))) || (decide (200 < (qb a2 : Int)))) = true then (xS).bind fun r6 => some r6 else (xd a1 (qb a0.fMethods : Int)).bind fun r7 => (Zb a0.fMethods r7).bind fun y8 => (Zj a0 y8.fIn a2).bind fun r11 => (wj r11).bind fun r12 => (if r12.2 = 0 then (law25_ProxySelf.l26 a0 a3 y8 r12 rounds ([] : List GSchema) 0) else (xS).bind fun r16 => some r16))
theorem law25_ProxySelf.ok (a0 : GSchema) (a1 : Int) (a2 : List Int) (a3 : Int) (r : Bool) (h : law25_ProxySelf a0 a1 a2 a3 = some r) : ACalls qh 9 [.agg (encGSchema a0), .int .i64 a1, .ds true (qe encI a2) (qb a2) false, .int .i64 a3] [] (fun r' _ => r' = .bool r) := by
 refine zf (rs := [.tmp 8]) tok Tryz.func9 rfl Tryz.ntmps9 rfl Tryz.call9 (by simp) ?_;refine zl [(0, .agg (encGSchema a0)), (1, .int .i64 a1), (2, .ds true (qe encI a2) (qb a2) false), (3, .int .i64 a3)] ⟨rfl, rfl, rfl, rfl, trivial⟩ ?_;unfold law25_ProxySelf at h
 refine rg tok [1, 2, 3, 4] fun K hK => ?_
 simp only [go_sem, qc, qa, qd, reduceCtorEq, encGSchema];apply hK
 refine za fun Z1 hZ1 => ?_
 refine rc [1, 2, 3, 4, 35] fun K hK => ?_
 obtain ⟨r2, hr2, h⟩ := bind_some h;refine rnN 1 ?_;refine clN rfl rfl rfl (zJ.ev a0 r2 hr2 _) ?_;refine rnN 2 ?_;obtain ⟨c3, hc3, h⟩ := bind_some h;refine zh 4 (fun L τ => L = [(1, .int .i64 a1), (2, .ds true (qe encI a2) (qb a2) false), (3, .int .i64 a3), (4, .op 0 0 0), (24, .bool c3)] ∧ τ = [.cells 0 (encGSchema a0)]) ?_ ?_
 · refine zI (b := (!r2)) 20 rfl (fun hg20 => ?_) (fun hg20 => ?_)
   · rw [if_pos hg20] at hc3;refine rnN 4 ?_;cases hc3;refine zb ⟨rfl, _, _, ⟨rfl, rfl⟩, .b hg20⟩
   rw [xP hg20] at hc3;obtain ⟨r4, hr4, hc3⟩ := bind_some hc3;refine rnN 1 ?_;refine clN rfl rfl rfl (xa.ev a0 r4 hr4 _) ?_;refine rnN 2 ?_;cases hc3;refine zb ⟨rfl, _, _, ⟨rfl, rfl⟩, .b hg20⟩
 rintro _ _ ⟨rfl, rfl⟩;refine rnN 1 ?_;refine zh 5 (fun L τ => L = [(1, .int .i64 a1), (2, .ds true (qe encI a2) (qb a2) false), (3, .int .i64 a3), (4, .op 0 0 0), (30, .bool (c3 || (decide ((qb a0.fMethods : Int) = 0))))] ∧ τ = [.cells 0 (encGSchema a0)]) ?_ ?_
 · refine zI (b := c3) 25 rfl (fun hg25 => ?_) (fun hg25 => ?_)
   · refine rnN 5 ?_;refine zb ⟨rfl, _, _, ⟨rfl, rfl⟩, .b hg25⟩
   refine rnN 5 ?_;refine zb ⟨rfl, _, _, ⟨rfl, rfl⟩, .b hg25⟩
 rintro _ _ ⟨rfl, rfl⟩;refine rnN 1 ?_;refine zh 4 (fun L τ => L = [(1, .int .i64 a1), (2, .ds true (qe encI a2) (qb a2) false), (3, .int .i64 a3), (4, .op 0 0 0), (35, .bool ((c3 || (decide ((qb a0.fMethods : Int) = 0))) || (decide (200 < (qb a2 : Int)))))] ∧ τ = [.cells 0 (encGSchema a0)]) ?_ ?_
 · refine zI (b := (c3 || (decide ((qb a0.fMethods : Int) = 0)))) 31 rfl (fun hg31 => ?_) (fun hg31 => ?_)
   · refine rnN 4 ?_;refine zb ⟨rfl, _, _, ⟨rfl, rfl⟩, .b hg31⟩
   refine rnN 4 ?_;refine zb ⟨rfl, _, _, ⟨rfl, rfl⟩, .b hg31⟩
 rintro _ _ ⟨rfl, rfl⟩;refine nkN hK ?_;refine zn (b := ((c3 || (decide ((qb a0.fMethods : Int) = 0))) || (decide (200 < (qb a2 : Int))))) rfl (fun hc5 => ?_) (fun hc5 => ?_)
 · rw [if_pos hc5] at h
   refine rc [8] fun K hK => ?_
   obtain ⟨r6, hr6, h⟩ := bind_some h;refine clN rfl rfl rfl (xS.ev  r6 hr6 _) ?_;refine rnN 1 ?_;refine nkN hK ?_;cases h;exact rtA
 rw [xP hc5] at h;apply zd;apply hZ1;obtain ⟨r7, hr7, h⟩ := bind_some h;obtain ⟨y8, hy8, h⟩ := bind_some h;have f9 := E24.idxS hy8;have f10 := E24.loadS rfl rfl hy8
 refine rd [2, 3, 4, 9] fun K hK => ?_
 refine DW.start (T := tab) [.any, .own 2 [], .any, .any, .at [], .at [], .eff, .any, .own 2 [], .flt, .eff] [(2, [])] ?_;refine DW.runN tok 6 ?_;simp only [go_sem, qc, qa, qd];refine DW.call rfl rfl rfl (xd.ev a1 (qb a0.fMethods : Int) r7 hr7 _) ?_;refine DW.runN tok 4 ?_;simp only [go_sem, qc, qf, qa, qd, encGMethod, f9, f10];refine DW.fin tok (by decide +kernel) rfl ?_;simp only [zp, upd, qa, reduceIte, yP, xG];apply hK
 refine rc [3, 4, 9, 10, 11] fun K hK => ?_
 obtain ⟨r11, hr11, h⟩ := bind_some h;refine rnN 4 ?_;refine clN rfl rfl rfl (Zj.ev a0 y8.fIn a2 r11 hr11 _) ?_;obtain ⟨r12, hr12, h⟩ := bind_some h;refine clN rfl rfl rfl (wj.ev r11 r12 hr12 _) ?_;refine rnN 5 ?_;refine nkN hK ?_
 refine za fun Z13 hZ13 => ?_
 refine rgN [3, 4, 9, 10, 56] ?_;refine zw rfl (fun hc14 => ?_) (fun hc14 => ?_)
 · rw [if_neg hc14] at h;have t15 := eq_false hc14
   refine rc [8] fun K hK => ?_
   obtain ⟨r16, hr16, h⟩ := bind_some h;refine clN rfl rfl rfl (xS.ev  r16 hr16 _) ?_;refine zj tok 1 ?_;simp only [go_sem, qc, qa, t15];refine nkN hK ?_;cases h;exact rtA
 rw [if_pos hc14] at h;have t17 := eq_true hc14;apply zd;apply hZ13;have f18 := vaq (T := tab) (src := 34) (dst := 9) rfl rfl rfl rfl rfl rfl r12.1
 refine rg tok [3, 4, 12] fun K hK => ?_
 simp only [go_sem, qc, qf, qa, qd, t17, f18];apply hK
 refine rgN [3, 4, 12, 13] ?_;refine wN 13 4 rfl ?_;refine zV (L := [(3, .int .i64 a3), (4, .op 0 0 0), (12, .op 2 0 0), (13, .os true 4 3 0 0 (qb ([] : List GSchema)) false)]) (τ := [.cells 0 (encGSchema a0), .cells 0 [.str y8.fName, .str y8.fIn, .str y8.fOut], .cells 0 [.int .i64 3, .int .i64 1, .int .i64 0, .int .i64 0, .int .i64 2, .str y8.fName, .int .i64 0, .str r12.1], .cells 0 (qe encGSchema ([] : List GSchema))]) .s ?_
 refine za fun Z19 hZ19 => ?_
 refine rgN [3, 4, 12, 13, 14] ?_;apply ze;refine zr (fun m L τ => ∃ (k26 : Nat) (l20 : List GSchema) (x22 : Int) (v21 : Nat), m = 0 + k26 ∧ L = [(3, .int .i64 a3), (4, .op 0 0 0), (12, .op 1 0 0), (13, .os true 4 2 v21 0 (qb l20) false), (14, .int .i64 x22)] ∧ τ = [.cells 0 (encGSchema a0), .cells 0 [.int .i64 3, .int .i64 1, .int .i64 0, .int .i64 0, .int .i64 2, .str y8.fName, .int .i64 0, .str r12.1], .cells v21 (qe encGSchema l20)] ∧ law25_ProxySelf.l26 a0 a3 y8 r12 k26 l20 x22 = some r) _ ⟨rounds, ([] : List GSchema), 0, 0, rfl, rfl, rfl, h⟩ (.t [0, 2, 3] false) ?_;rintro m L τ ⟨k26, l20, x22, v21, rfl, rfl, rfl, h⟩
 rcases k26 with _ | k26
 · cases h
 simp only [law25_ProxySelf.l26] at h
 refine za fun Z27 hZ27 => ?_
 refine rc [3, 4, 12, 13, 14, 66] fun K hK => ?_
 obtain ⟨r28, hr28, h⟩ := bind_some h;refine rnN 2 ?_;refine clN rfl rfl rfl (xd.ev a3 5 r28 hr28 _) ?_;refine rnN 1 ?_;refine nkN hK ?_;refine zw rfl (fun hc29 => ?_) (fun hc29 => ?_)
 · rw [if_pos hc29] at h;have t30 := eq_true hc29;apply zd;apply hZ27
   refine za fun Z31 hZ31 => ?_
   apply ze
   refine rcE [3, 4, 12, 13, 14] fun K hK => ?_
   obtain ⟨r32, hr32, h⟩ := bind_some h;refine zj tok 2 ?_;simp only [go_sem, qc, qf, qa, qd, t30];refine clN rfl rfl rfl (yf.ev a0 r32 hr32 _) ?_;obtain ⟨_u33, hu33, h⟩ := bind_some h;have gu33 := yi hu33;have f34 := (zv E70.len l20);refine zj tok 3 ?_;simp only [go_sem, qc, qf, qa, qd, qt, zN, z6, q9, qY, true_and, ue, z8, zO, yj, encGSchema, gu33, f34, yB, ua, qW, AV.one, qU, qA, qj, ql, qn, qE];refine nkN hK ?_;apply hZ31
   refine rgE tok [3, 4, 12, 13, 14] fun K hK => ?_
   simp only [go_sem, qc, qa];apply hK
   exact ⟨_, _, _, qs (0 + k26), ⟨k26, l20 ++ [r32], IntKind.i64.wrap (x22 + 1), v21 + 1, rfl, rfl, rfl, h⟩, (.t [0, 1, 2] false)⟩
 rw [if_neg hc29] at h;have t35 := eq_false hc29;apply zy;apply hZ19
 refine rc [12, 15, 16] fun K hK => ?_
 obtain ⟨r36, hr36, h⟩ := bind_some h;refine zj tok 2 ?_;simp only [go_sem, qc, qf, qa, qd, t35];refine clN rfl rfl rfl (xj.ok l20 (⟨3, 1, 0, 0, 2, y8.fName, 0, r12.1⟩ : xH) r36 hr36).ld ?_;refine zj tok 6 ?_;simp only [go_sem, qc, qf, qa, qd, encGPacket];refine nkN hK ?_
 refine rc [8] fun K hK => ?_
 refine rnN 2 ?_;refine zh 4 (fun L τ => L = [(85, .bool (r36.2 && (decide (r36.1.fKind = 3) && (decide (r36.1.fFrom = 1) && (decide (r36.1.fTo = 0) && (decide (r36.1.fID = 0) && (decide (r36.1.fVersion = 2) && (decide (r36.1.fMethod = y8.fName) && (decide (r36.1.fErr = 0) && decide (r36.1.fBody = r12.1))))))))))] ∧ τ = [.cells 0 (encGSchema a0), .cells 0 [.int .i64 3, .int .i64 1, .int .i64 0, .int .i64 0, .int .i64 2, .str y8.fName, .int .i64 0, .str r12.1], .cells v21 (qe encGSchema l20), .cells 0 (encGPacket r36.1)]) ?_ ?_
 · refine zI (b := r36.2) 81 rfl (fun hg81 => ?_) (fun hg81 => ?_)
   · refine zj tok 4 ?_;simp only [go_sem, qc, qf, qa, qd, evEqA, ceqL, ceq];refine zb ⟨rfl, _, _, ⟨rfl, rfl⟩, .b hg81⟩
   refine rnN 4 ?_;refine zb ⟨rfl, _, _, ⟨rfl, rfl⟩, .b hg81⟩
 rintro _ _ ⟨rfl, rfl⟩;refine rnN 1 ?_;obtain ⟨c37, hc37, h⟩ := bind_some h;refine zh 2 (fun L τ => L = [(88, .bool c37)] ∧ τ = [.cells 0 (encGSchema a0), .cells 0 [.int .i64 3, .int .i64 1, .int .i64 0, .int .i64 0, .int .i64 2, .str y8.fName, .int .i64 0, .str r12.1], .cells v21 (qe encGSchema l20), .cells 0 (encGPacket r36.1)]) ?_ ?_
 · refine zI (b := (r36.2 && (decide (r36.1.fKind = 3) && (decide (r36.1.fFrom = 1) && (decide (r36.1.fTo = 0) && (decide (r36.1.fID = 0) && (decide (r36.1.fVersion = 2) && (decide (r36.1.fMethod = y8.fName) && (decide (r36.1.fErr = 0) && decide (r36.1.fBody = r12.1)))))))))) 86 rfl (fun hg86 => ?_) (fun hg86 => ?_)
   · rw [if_pos hg86] at hc37;obtain ⟨r38, hr38, hc37⟩ := bind_some hc37;refine clN rfl rfl rfl (xS.ev  r38 hr38 _) ?_;refine rnN 1 ?_;cases hc37;refine zb ⟨rfl, _, _, ⟨rfl, rfl⟩, .b hg86⟩
   rw [xP hg86] at hc37;refine rnN 2 ?_;cases hc37;refine zb ⟨rfl, _, _, ⟨rfl, rfl⟩, .b hg86⟩
 rintro _ _ ⟨rfl, rfl⟩;refine rnN 1 ?_;refine nkN hK ?_;cases h;exact rtA
end
section
set_option maxRecDepth 4000
open AM
def vb (n : Nat) : List UInt8 := if h : n < 128 then [q5 n] else q5 (n % 128 + 128) :: vb (n / 128)
termination_by n
decreasing_by omega
theorem vb_lt {n : Nat} (h : n < 128) : vb n = [q5 n] := by rw [vb, dif_pos h]
theorem vb_ge {n : Nat} (h : ¬ n < 128) : vb n = q5 (n % 128 + 128) :: vb (n / 128) := by rw [vb, dif_neg h]
theorem vb_pos (n : Nat) : 0 < (vb n).length := by
 by_cases h : n < 128
 · rw [vb_lt h]; exact Nat.one_pos
 rw [vb_ge h, qj]; omega
theorem vb_len : ∀ (k n : Nat), n < 2 ^ (7 * (k + 1)) → (vb n).length ≤ k + 1
 | 0, n, h => by rw [vb_lt (by simpa using h)]; exact qu _
 | k + 1, n, h => by
  by_cases h1 : n < 128
  · rw [vb_lt h1, qj, ql]; omega
  rw [vb_ge h1, qj]
  have := vb_len k (n / 128) (by
   have e : 2 ^ (7 * (k + 1 + 1)) = 128 * 2 ^ (7 * (k + 1)) := by rw [show 7 * (k + 1 + 1) = 7 + 7 * (k + 1) by omega, Nat.pow_add]
   rw [e] at h
   exact Nat.div_lt_of_lt_mul h)
  omega
theorem ZP {n : Nat} (h : n < 2 ^ 64) : (vb n).length ≤ 10 := vb_len 9 n (uf h (by decide))
theorem Y8 {p : Prop} [Decidable p] (h : p) : grd p = some () := if_pos h
theorem xF {n b : Nat} (h : n * b ≤ 140737488355328) : Yf n b = some () := if_pos h
theorem u64w {n : Nat} (h : n < 2 ^ 64) : IntKind.u64.wrap (n : Int) = (n : Int) := by rw [IntKind.wrap_u64]; omega
theorem u64i {x : Int} (h : 0 ≤ x) (h' : x < 18446744073709551616) : IntKind.u64.wrap x = x := by rw [IntKind.wrap_u64]; omega
theorem u8w (n : Nat) : IntKind.u8.wrap (n : Int) = ((n % 256 : Nat) : Int) := by
 simp only [IntKind.wrap, IntKind.bits, IntKind.signed, Bool.false_and]
 simp
theorem vaZ (n : Nat) (h : n < 256) : (q5 n).toNat = n := by
 rw [UInt8.toNat_ofNat']; omega
theorem or128 : ∀ m : Fin 256, (qx 8 ((m.val : Nat) : Int) ||| qx 8 128).toNat = m.val % 128 + 128 := by decide
theorem and127 : ∀ m : Fin 256, (qx 8 ((m.val : Nat) : Int) &&& ~~~(qx 8 128)).toNat = m.val % 128 := by decide
theorem moreByte (n : Nat) : q5 (qH (IntKind.u8.wrap ((uj (qx 8 (IntKind.u8.wrap (n : Int)) ||| qx 8 128) : Nat) : Int))) = q5 (n % 128 + 128) := by
 have h := or128 ⟨n % 256, Nat.mod_lt _ (by decide)⟩;simp only at h;rw [u8w n, h, u8w (n % 256 % 128 + 128), qV]
 congr 1
 have := Nat.mod_mod_of_dvd n (show 128 ∣ 256 by decide)
 omega
theorem lastByte (n : Nat) (h : n < 128) : q5 (qH (IntKind.u8.wrap (n : Int))) = q5 n := by
 rw [u8w, qV]; congr 1; omega
theorem shr7 (n : Nat) : Int.fdiv (n : Int) (2 ^ (min (qH 7) 64)) = ((n / 128 : Nat) : Int) := by
 rw [show ((2 : Int) ^ (min (qH 7) 64)) = 128 from by decide, Int.fdiv_eq_ediv_of_nonneg _ (by decide)]
 omega
theorem vint_Put_l : ∀ (k n : Nat) (l : List UInt8), n < 2 ^ (7 * k) → l.length + k ≤ 140737488355328 → xn.l9 k l (n : Int) = some (l ++ vb n) ∨ k = 0
 | 0, _, _, _, _ => Or.inr rfl
 | k + 1, n, l, h, hl => by
  left
  by_cases h1 : n < 128
  · rw [xn.l9, if_neg (by omega), xF (by omega), qg, lastByte n h1, vb_lt h1]
  rw [xn.l9, if_pos (by omega), xF (by omega), qg, moreByte, shr7, vb_ge h1]
  have hk : n / 128 < 2 ^ (7 * k) := by
   have e : 2 ^ (7 * (k + 1)) = 128 * 2 ^ (7 * k) := by rw [show 7 * (k + 1) = 7 + 7 * k by omega, Nat.pow_add]
   rw [e] at h; exact Nat.div_lt_of_lt_mul h
  rcases vint_Put_l k (n / 128) (l ++ [q5 (n % 128 + 128)]) hk (by rw [qi, qF]; omega) with e | e
  · rw [e, qq]; rfl
  exfalso; subst e; simp at hk; omega
theorem vint_Put_m : ∀ (k j n : Nat) (l r : List UInt8), xn.l9 k l (n : Int) = some r → xn.l9 (k + j) l (n : Int) = some r
 | 0, _, _, _, _, h => by cases h
 | k + 1, j, n, l, r, h => by
  rw [Nat.succ_add_eq_add_succ, Nat.add_succ]
  by_cases h1 : (128 : Int) ≤ (n : Int)
  · rw [xn.l9, if_pos h1] at h ⊢
    cases hr : Yf (qb l + 1) 1 with
    | none => rw [hr] at h; cases h
    | some u =>
     rw [hr, qg, shr7] at h
     rw [qg, shr7]; exact vint_Put_m k j _ _ _ h
  rw [xn.l9, if_neg h1] at h ⊢; exact h
theorem XX (a : List UInt8) {n : Nat} (h : n < 2 ^ 64) (ha : a.length ≤ 140737488355000) : xn a (n : Int) = some (a ++ vb n) := by
 by_cases h1 : n < 128
 · rw [xn, if_neg (by omega), xF (by omega), qg, lastByte n h1, vb_lt h1]
 rw [xn, if_pos (by omega), xF (by omega), qg, moreByte, shr7, vb_ge h1]
 rcases vint_Put_l 10 (n / 128) (a ++ [q5 (n % 128 + 128)]) (by omega) (by rw [qi, qF]; omega) with e | e
 · have := vint_Put_m 10 999999999999999999990 _ _ _ e;rw [show 10 + 999999999999999999990 = rounds from rfl] at this
   rw [this, qq]; rfl
 cases e
theorem orAdd {i acc d : Nat} (h : acc < 2 ^ i) : acc ||| d * 2 ^ i = acc + d * 2 ^ i := by
 rw [Nat.or_comm, Nat.mul_comm, ← Nat.two_pow_add_eq_or_of_lt h]; omega
theorem bv64 {n : Nat} (h : n < 2 ^ 64) : (qx 64 (n : Int)).toNat = n := by
 rw [BitVec.ofInt_natCast, BitVec.toNat_ofNat]; exact Nat.mod_eq_of_lt h
theorem stepv {acc i : Nat} {y : UInt8} (hi : i ≤ 9) (ha : acc < 2 ^ (7 * i)) (h9 : i = 9 → y.toNat ≤ 1) : IntKind.u64.wrap ((uj (qx 64 (acc : Int) ||| qx 64 (IntKind.u64.wrap ((IntKind.u64.wrap (IntKind.u8.wrap ((uj (qx 8 (y.toNat : Int) &&& ~~~(qx 8 128)) : Nat) : Int))) * 2 ^ (min (qH (IntKind.i64.wrap (7 * (i : Int)))) 64)))) : Nat) : Int) = ((acc + (y.toNat % 128) * 2 ^ (7 * i) : Nat) : Int) ∧ acc + (y.toNat % 128) * 2 ^ (7 * i) < 2 ^ 64 ∧ (i < 9 → acc + (y.toNat % 128) * 2 ^ (7 * i) < 2 ^ (7 * (i + 1))) := by
 have hy : y.toNat < 256 := y.toNat_lt;have h := and127 ⟨y.toNat, hy⟩;simp only at h
 have e : IntKind.i64.wrap (7 * (i : Int)) = ((7 * i : Nat) : Int) := by rw [yx (by omega) (by omega)]; omega
 have hm : min (7 * i) 64 = 7 * i := by omega
 have hd : y.toNat % 128 < 128 := Nat.mod_lt _ (by decide)
 have hp : 2 ^ (7 * (i + 1)) = 128 * 2 ^ (7 * i) := by rw [show 7 * (i + 1) = 7 + 7 * i by omega, Nat.pow_add]
 have hs : i < 9 → acc + (y.toNat % 128) * 2 ^ (7 * i) < 2 ^ (7 * (i + 1)) := by
  intro _
  rw [hp];have : (y.toNat % 128) * 2 ^ (7 * i) ≤ 127 * 2 ^ (7 * i) := qZ _ (by omega)
  omega
 have hb : acc + (y.toNat % 128) * 2 ^ (7 * i) < 2 ^ 64 := by
  by_cases h8 : i < 9
  · have := hs h8;have h2 : 2 ^ (7 * (i + 1)) ≤ 2 ^ 63 := Nat.pow_le_pow_right (by decide) (by omega)
    omega
  have hi9 : i = 9 := by omega
  have h1 := h9 hi9;subst hi9
  have : y.toNat % 128 ≤ 1 := by omega
  have h2 : (y.toNat % 128) * 2 ^ (7 * 9) ≤ 1 * 2 ^ (7 * 9) := qZ _ this
  omega
 refine ⟨?_, hb, hs⟩;rw [h, u8w, Nat.mod_eq_of_lt (show y.toNat % 128 < 256 by omega), e, qV, hm]
 have hc : ((((y.toNat % 128 : Nat) : Int)) * 2 ^ (7 * i)) = (((y.toNat % 128) * 2 ^ (7 * i) : Nat) : Int) := by
  rw [Int.natCast_mul, Int.natCast_pow]; rfl
 have hu : IntKind.u64.wrap ((y.toNat % 128 : Nat) : Int) = ((y.toNat % 128 : Nat) : Int) := u64w (by omega);rw [hu, hc, u64w (n := y.toNat % 128 * 2 ^ (7 * i)) (by omega), BitVec.toNat_or, bv64 (by omega), bv64 (by omega), orAdd ha, u64w hb]
theorem vbw (a : Nat) (hA : a ≤ 4611686018427387904) : ∀ (q post : List UInt8) (v i acc : Nat), q = vb v ++ post → i ≤ 9 → acc < 2 ^ (7 * i) → v * 2 ^ (7 * i) < 2 ^ 64 → (0 < i → v ≠ 0) →
 xB.l12 (a : Int) q (i : Int) (acc : Int) = some (((acc + v * 2 ^ (7 * i) : Nat) : Int), ((a + i + (vb v).length : Nat) : Int), 0)
 | [], post, v, i, acc, h, _, _, _, _ => by
  have := vb_pos v;have h2 := congrArg qb h
  rw [qi, ql] at h2; omega
 | y :: q, post, v, i, acc, h, hi, ha, hv, h0 => by
  by_cases h1 : v < 128
  · rw [vb_lt h1] at h ⊢
    obtain ⟨rfl, rfl⟩ : y = q5 v ∧ q = post := by injection h with h2 h3; exact ⟨h2, h3⟩
    have hy : (q5 v).toNat = v := vaZ v (by omega)
    have h9 : i = 9 → v ≤ 1 := by
     intro e; subst e
     apply Nat.le_of_not_lt; intro hc
     have : 2 * 2 ^ (7 * 9) ≤ v * 2 ^ (7 * 9) := qZ _ hc
     omega
    have st := (stepv (y := q5 v) hi ha (by rw [hy]; exact h9)).1;have hw1 : IntKind.i64.wrap (7 * (i : Int)) = 7 * (i : Int) := yx (by omega) (by omega);rw [xB.l12, st, hy];rw [if_neg (by simp only [qm, decide_eq_true_eq, not_and]; intro e; have := h9 (by omega); omega), Y8 (by rw [yx (by omega) (by omega)]; omega), qg, if_neg (by omega), if_neg (by simp only [qm, decide_eq_true_eq, not_and]; intro e e2; exact h0 (by omega) (by omega))];rw [Nat.mod_eq_of_lt h1, yx (x := (a : Int) + (i : Int)) (by omega) (by omega), yx (x := (a : Int) + (i : Int) + 1) (by omega) (by omega), qF];simp only [Int.natCast_add, Int.natCast_one]
  rw [vb_ge h1] at h ⊢
  obtain ⟨rfl, rfl⟩ : y = q5 (v % 128 + 128) ∧ q = vb (v / 128) ++ post := by injection h with h2 h3; exact ⟨h2, h3⟩
  have hy : (q5 (v % 128 + 128)).toNat = v % 128 + 128 := vaZ _ (by omega)
  have hi8 : i < 9 := by
   apply Nat.lt_of_not_le; intro hc
   have : i = 9 := by omega
   subst this;have : 128 * 2 ^ (7 * 9) ≤ v * 2 ^ (7 * 9) := qZ _ (by omega)
   omega
  obtain ⟨st, sb, sn⟩ := stepv (y := q5 (v % 128 + 128)) hi ha (by intro e; omega);rw [xB.l12, st, hy, if_neg (by simp only [qm, decide_eq_true_eq, not_and]; intro e; omega), Y8 (by rw [yx (by omega) (by omega)]; omega), qg, if_pos (by omega)];rw [hy] at sn
  have hm : (v % 128 + 128) % 128 = v % 128 := by omega
  rw [hm] at sn ⊢
  have hp : 2 ^ (7 * (i + 1)) = 128 * 2 ^ (7 * i) := by rw [show 7 * (i + 1) = 7 + 7 * i by omega, Nat.pow_add]
  have hvd : v = 128 * (v / 128) + v % 128 := (Nat.div_add_mod v 128).symm
  have hmul : v * 2 ^ (7 * i) = (v / 128) * 2 ^ (7 * (i + 1)) + (v % 128) * 2 ^ (7 * i) := by
   rw [hp]
   calc v * 2 ^ (7 * i) = (128 * (v / 128) + v % 128) * 2 ^ (7 * i) := by rw [← hvd]
    _ = _ := by rw [uV, Nat.mul_comm 128, Nat.mul_assoc]
  have ih := vbw a hA (vb (v / 128) ++ post) post (v / 128) (i + 1) (acc + v % 128 * 2 ^ (7 * i)) rfl (by omega) (sn hi8) (by rw [hmul] at hv; omega) (by intro _; omega);rw [show ((i : Int) + 1) = ((i + 1 : Nat) : Int) by omega, ih, hmul, qj]
  congr 2
  · congr 1; omega
  congr 2; omega
theorem vbv (a : Nat) (hA : a ≤ 4611686018427387904) : ∀ (q : List UInt8) (i acc : Nat), i + q.length ≤ 10 → acc < 2 ^ (7 * i) → ∃ r, xB.l12 (a : Int) q (i : Int) (acc : Int) = some r ∧
 (r.2.2 = 0 → ∃ v post, q = vb v ++ post ∧ v * 2 ^ (7 * i) < 2 ^ 64 ∧ (0 < i → v ≠ 0)) ∧ 0 ≤ r.2.2
 | [], i, acc, _, _ => ⟨_, rfl, (by intro h; cases h), by decide⟩
 | y :: q, i, acc, hl, ha => by
  rw [qj] at hl;rw [xB.l12]
  by_cases h9 : ((decide ((i : Int) = 9)) && (decide (1 < (y.toNat : Int)))) = true
  · rw [if_pos h9]; exact ⟨_, rfl, (by intro h; cases h), by decide⟩
  rw [if_neg h9]
  have h9' : i = 9 → y.toNat ≤ 1 := by
   intro e
   simp only [qm, decide_eq_true_eq, not_and] at h9
   have := h9 (by omega); omega
  obtain ⟨st, sb, sn⟩ := stepv (y := y) (show i ≤ 9 by omega) ha h9';rw [st, Y8 (by rw [yx (by omega) (by omega)]; omega), qg];have hy : y.toNat < 256 := y.toNat_lt
  by_cases h1 : (128 : Int) ≤ (y.toNat : Int)
  · rw [if_pos h1]
    have hi8 : i < 9 := by
     apply Nat.lt_of_not_le; intro hc
     have := h9' (by omega); omega
    obtain ⟨r, e, hr, h0⟩ := vbv a hA q (i + 1) (acc + y.toNat % 128 * 2 ^ (7 * i)) (by omega) (sn hi8);rw [show ((i : Int) + 1) = ((i + 1 : Nat) : Int) by omega];refine ⟨r, e, ?_, h0⟩
    intro hz
    obtain ⟨v, post, hq, hv, hn⟩ := hr hz
    have hp : 2 ^ (7 * (i + 1)) = 128 * 2 ^ (7 * i) := by rw [show 7 * (i + 1) = 7 + 7 * i by omega, Nat.pow_add]
    have hvn := hn (by omega)
    have hw : ¬ (v * 128 + y.toNat % 128) < 128 := by omega
    refine ⟨v * 128 + y.toNat % 128, post, ?_, ?_, by intro _; omega⟩
    · rw [vb_ge hw, show (v * 128 + y.toNat % 128) % 128 + 128 = y.toNat by omega, show (v * 128 + y.toNat % 128) / 128 = v by omega, UInt8.ofNat_toNat, hq]; rfl
    rw [hp] at hv
    have hmul : (v * 128 + y.toNat % 128) * 2 ^ (7 * i) = v * (128 * 2 ^ (7 * i)) + y.toNat % 128 * 2 ^ (7 * i) := by rw [uV, Nat.mul_assoc]
    rw [hmul]
    by_cases hi7 : i < 9
    · have hd : y.toNat % 128 * 2 ^ (7 * i) < 128 * 2 ^ (7 * i) := Nat.mul_lt_mul_of_pos_right (by omega) (Nat.pow_pos (by decide))
      have h64 : 128 * 2 ^ (7 * i) ∣ 2 ^ 64 := by rw [← hp]; exact Nat.pow_dvd_pow 2 (by omega)
      obtain ⟨c, hc⟩ := h64;rw [hc] at hv ⊢
      have hvc : v < c := by
       apply Nat.lt_of_not_le; intro hle
       have := qZ (128 * 2 ^ (7 * i)) hle
       rw [Nat.mul_comm c] at this; omega
      have h3 : (v + 1) * (128 * 2 ^ (7 * i)) ≤ c * (128 * 2 ^ (7 * i)) := qZ _ hvc;rw [uV, Nat.one_mul] at h3
      rw [Nat.mul_comm (128 * 2 ^ (7 * i)) c]; omega
    omega
  rw [if_neg h1]
  by_cases h2 : ((decide ((y.toNat : Int) = 0)) && (decide (0 < (i : Int)))) = true
  · rw [if_pos h2]; exact ⟨_, rfl, (by intro h; cases h), by decide⟩
  rw [if_neg h2];refine ⟨_, rfl, ?_, u4 0⟩
  intro _
  refine ⟨y.toNat, q, ?_, ?_, ?_⟩
  · rw [vb_lt (by omega), UInt8.ofNat_toNat]; rfl
  · rw [Nat.mod_eq_of_lt (by omega)] at sb; omega
  intro hi e
  apply h2
  simp only [qm, decide_eq_true_eq]; omega
theorem get_head {b : List UInt8} {n : Nat} (hb : b.length ≤ 4096) (hn : n ≤ b.length) : xB b (n : Int) = xB.l12 (n : Int) ((b.drop n).take 10) 0 0 := by
 have e1 : IntKind.i64.wrap ((qb b : Int) - (n : Int)) = ((b.length - n : Nat) : Int) := by rw [yx (by omega) (by omega)]; omega
 rw [xB, if_neg (by simp only [qM, decide_eq_true_eq]; omega), e1]
 by_cases h : (10 : Int) < ((b.length - n : Nat) : Int)
 · rw [if_pos h]
   have e2 : IntKind.i64.wrap ((n : Int) + 10) = ((n + 10 : Nat) : Int) := by rw [yx (by omega) (by omega)]; omega
   rw [e2, Y8 (by omega), qg, YS, qV, qV, show n + 10 - n = 10 by omega]
 rw [if_neg h]
 have e2 : IntKind.i64.wrap ((n : Int) + ((b.length - n : Nat) : Int)) = (b.length : Int) := by rw [yx (by omega) (by omega)]; omega
 rw [e2, Y8 (by omega), qg, YS, qV, qV, ug (by rw [uJ]; exact qu _), ug (by rw [uJ]; omega)]
theorem get_ok {b post : List UInt8} {n v : Nat} (hb : b.length ≤ 4096) (hn : n ≤ b.length) (h : b.drop n = vb v ++ post) (hv : v < 2 ^ 64) : xB b (n : Int) = some ((v : Int), ((n + (vb v).length : Nat) : Int), 0) := by
 have := vbw n (by omega) ((b.drop n).take 10) (post.take (10 - (vb v).length)) v 0 0 (by rw [h, List.take_append, ug (ZP hv)]) (by omega) (by decide) (by omega) (by omega);rw [get_head hb hn]
 simpa using this
theorem get_inv {b : List UInt8} {n : Nat} (hb : b.length ≤ 4096) (hn : n ≤ b.length) : ∃ r, xB b (n : Int) = some r ∧ (r.2.2 = 0 → ∃ v post, b.drop n = vb v ++ post ∧ v < 2 ^ 64 ∧ r = ((v : Int), ((n + (vb v).length : Nat) : Int), 0)) ∧ 0 ≤ r.2.2 := by
 obtain ⟨r, e, hr, h0⟩ := vbv n (by omega) ((b.drop n).take 10) 0 0 (by rw [uI]; omega) (by decide);rw [get_head hb hn];refine ⟨r, e, ?_, h0⟩
 intro hz
 obtain ⟨v, post, hq, hv, _⟩ := hr hz
 have hv' : v < 2 ^ 64 := by omega
 have hd : b.drop n = vb v ++ (post ++ (b.drop n).drop 10) := by
  rw [← qq, ← hq, un]
 refine ⟨v, _, hd, hv', ?_⟩;have := get_ok hb hn hd hv';rw [get_head hb hn] at this;exact Option.some.inj (e.symm.trans this)
end
section
set_option maxRecDepth 4000
open AM
def In64 (n : Int) : Prop := -9223372036854775808 ≤ n ∧ n < 9223372036854775808
def zg (n : Int) : Nat := if 0 ≤ n then (2 * n).toNat else (-2 * n - 1).toNat
def zu (v : Nat) : Int := if v % 2 = 0 then ((v / 2 : Nat) : Int) else -((v / 2 : Nat) : Int) - 1
theorem zg_lt {n : Int} (h : In64 n) : zg n < 2 ^ 64 := by
 unfold zg; obtain ⟨h1, h2⟩ := h; split <;> omega
theorem zu_zg (n : Int) : zu (zg n) = n := by
 unfold zg zu; split <;> split <;> omega
theorem zg_zu (v : Nat) : zg (zu v) = v := by
 unfold zg zu; split <;> split <;> omega
theorem zu_in {v : Nat} (h : v < 2 ^ 64) : In64 (zu v) := by
 unfold zu In64; split <;> omega
theorem bvm1 : qx 64 (-1) = BitVec.allOnes 64 := by decide
theorem bv0 : qx 64 0 = 0#64 := by decide
theorem fdiv2 (n : Int) (k : Nat) : Int.fdiv n (2 ^ k) = n / (2 ^ k) := Int.fdiv_eq_ediv_of_nonneg _ (Int.le_of_lt (Int.pow_pos (by decide)))
theorem vint_Zig_eq {n : Int} (h : In64 n) : ZN n = (zg n : Int) := by
 obtain ⟨h1, h2⟩ := h;unfold ZN zg;rw [show min (qH 1) 64 = 1 from rfl, show min (qH 63) 64 = 63 from rfl, fdiv2]
 by_cases h0 : 0 ≤ n
 · have e : n / 2 ^ 63 = 0 := Int.ediv_eq_zero_of_lt h0 (by omega);rw [if_pos h0, e, show IntKind.u64.wrap 0 = 0 from by rw [IntKind.wrap_u64]; rfl, bv0, BitVec.xor_zero]
   have e2 : IntKind.u64.wrap (IntKind.u64.wrap n * 2 ^ 1) = (((2 * n).toNat : Nat) : Int) := by rw [IntKind.wrap_u64, IntKind.wrap_u64]; omega
   rw [e2, bv64 (by omega), u64w (by omega)]
 have e : n / 2 ^ 63 = -1 := by omega
 have e1 : IntKind.u64.wrap (-1) = 18446744073709551615 := by rw [IntKind.wrap_u64]; rfl
 have e3 : qx 64 18446744073709551615 = BitVec.allOnes 64 := by decide
 rw [if_neg h0, e, e1, e3, BitVec.xor_allOnes, BitVec.toNat_not]
 have e2 : IntKind.u64.wrap (IntKind.u64.wrap n * 2 ^ 1) = (((2 * n + 18446744073709551616).toNat : Nat) : Int) := by rw [IntKind.wrap_u64, IntKind.wrap_u64]; omega
 rw [e2, bv64 (by omega), u64w (by omega)]
 omega
theorem vint_Zag_eq {v : Nat} (h : v < 2 ^ 64) : ZO (v : Int) = zu v := by
 unfold ZO zu;rw [show min (qH 1) 64 = 1 from rfl, fdiv2]
 have ea : (qx 64 (v : Int) &&& qx 64 1).toNat = v % 2 := by
  rw [BitVec.toNat_and, bv64 h, show (qx 64 1).toNat = 1 from by decide, Nat.and_one_is_mod]
 have e1 : IntKind.i64.wrap ((v : Int) / 2 ^ 1) = ((v / 2 : Nat) : Int) := by rw [yx (by omega) (by omega)]; omega
 rw [ea, e1, u64w (n := v % 2) (by omega)]
 by_cases h0 : v % 2 = 0
 · rw [if_pos h0, h0]
   have e2 : IntKind.i64.wrap (0 - IntKind.i64.wrap ((0 : Nat) : Int)) = 0 := by decide
   rw [e2, bv0, BitVec.xor_zero, bv64 (by omega), yx (by omega) (by omega)]
 have h1 : v % 2 = 1 := by omega
 rw [if_neg h0, h1]
 have e2 : IntKind.i64.wrap (0 - IntKind.i64.wrap ((1 : Nat) : Int)) = -1 := by decide
 rw [e2, bvm1, BitVec.xor_allOnes, BitVec.toNat_not, bv64 (by omega), IntKind.wrap_i64]
 omega
def Yu (r : GRaw) : Prop := ym r = true ∧ In64 r.fN
def vba (r : GRaw) : Nat := (2 * r.fTag + r.fWire).toNat
def X9 (r : GRaw) : List UInt8 := vb (vba r) ++ (if r.fWire = 0 then vb (zg r.fN) else vb r.fB.length ++ r.fB)
def Zv (l : List GRaw) : List UInt8 := l.flatMap X9
theorem ZK {r : GRaw} (h : ym r = true) : 1 ≤ r.fTag ∧ r.fTag ≤ 500 ∧ ((r.fWire = 0 ∧ r.fB = []) ∨ (r.fWire = 1 ∧ r.fN = 0 ∧ r.fB.length ≤ 4096)) := by
 unfold ym at h
 split at h
 · cases h
 rename_i h1
 simp only [qM, decide_eq_true_eq, not_or] at h1;refine ⟨by omega, by omega, ?_⟩
 split at h
 · left; exact ⟨‹_›, by simpa using h⟩
 split at h
 · right
   simp only [qm, decide_eq_true_eq] at h;exact ⟨‹_›, h.1, by omega⟩
 cases h
theorem check_num {t n : Int} (h1 : 1 ≤ t) (h2 : t ≤ 500) : ym ⟨t, 0, n, []⟩ = true := by
 unfold ym
 rw [if_neg (by simp only [qM, decide_eq_true_eq]; omega)]; rfl
theorem vaR {t : Int} {s : List UInt8} (h1 : 1 ≤ t) (h2 : t ≤ 500) (h3 : s.length ≤ 4096) : ym ⟨t, 1, 0, s⟩ = true := by
 unfold ym;rw [if_neg (by simp only [qM, decide_eq_true_eq]; omega)];simp only [decide_true, uq]
 rw [if_neg (by decide), if_pos trivial]; exact decide_eq_true (by omega)
theorem rawB_pos (r : GRaw) : 2 ≤ (X9 r).length := by
 unfold X9;have h1 := vb_pos (vba r);have h2 := vb_pos (zg r.fN);have h3 := vb_pos r.fB.length
 split <;> simp only [qi] <;> omega
theorem rawB_le {r : GRaw} (h : Yu r) : (X9 r).length ≤ 4116 := by
 obtain ⟨hc, hn⟩ := h;obtain ⟨h1, h2, h3⟩ := ZK hc;unfold X9 vba;have k1 : (vb (2 * r.fTag + r.fWire).toNat).length ≤ 10 := ZP (by omega);have k2 : (vb (zg r.fN)).length ≤ 10 := ZP (zg_lt hn)
 rcases h3 with ⟨h3, h4⟩ | ⟨h3, h4, h5⟩
 · rw [if_pos h3, qi]; omega
 have k3 : (vb r.fB.length).length ≤ 10 := ZP (by omega)
 rw [if_neg (by omega), qi, qi]; omega
theorem wire_Put_eq {a : List UInt8} {r : GRaw} (h : Yu r) (ha : a.length ≤ 1000000) : ZM a r = some (a ++ X9 r, true) := by
 obtain ⟨hc, hn⟩ := h;obtain ⟨h1, h2, h3⟩ := ZK hc;unfold ZM bnd
 rw [hc]; simp only []
 have ek : IntKind.u64.wrap (IntKind.i64.wrap ((IntKind.i64.wrap (2 * r.fTag)) + r.fWire)) = ((vba r : Nat) : Int) := by
  rw [yx (x := 2 * r.fTag) (by omega) (by omega), yx (by omega) (by omega), u64i (by omega) (by omega), vba]; omega
 have k1 : vba r < 2 ^ 64 := by unfold vba; omega
 have kl := ZP k1;rw [if_neg (by decide), ek, XX a k1 (by omega), qg]
 rcases h3 with ⟨h3, h4⟩ | ⟨h3, h4, h5⟩
 · rw [if_pos h3, vint_Zig_eq hn, XX _ (zg_lt hn) (by rw [qi]; omega), qg, X9, if_pos h3, qq]
 have hb := ZP (n := r.fB.length) (by omega);rw [if_neg (by omega), u64w (by omega), XX _ (by omega) (by rw [qi]; omega), qg, xF (by simp only [qi]; omega), qg, X9, if_neg (by omega)];simp only [qq]
theorem putAll_l11 : ∀ (q : List GRaw) (x : Int) (acc : List UInt8), (∀ r ∈ q, Yu r) → acc.length ≤ 4096 → yc.l11 q x acc = some (if 4096 < (acc ++ Zv q).length then ([], 4) else (acc ++ Zv q, 0))
 | [], x, acc, _, ha => by
  rw [yc.l11, Zv, ui, qy, if_neg (by omega)]
 | r :: q, x, acc, h, ha => by
  have hr := h r (qp ..)
  rw [yc.l11, wire_Put_eq hr (by omega), qg]; dsimp only
  have e : acc ++ Zv (r :: q) = (acc ++ X9 r) ++ Zv q := by rw [Zv, qT, qq]; rfl
  rw [e]
  by_cases h1 : 4096 < (acc ++ X9 r).length
  · rw [if_pos (by omega), if_pos (by rw [qi]; omega)]
  rw [if_neg (by omega), putAll_l11 q (x + 1) _ (fun s hs => h s (qr _ hs)) (by omega)]
theorem putAll_l4 (a : List GRaw) : ∀ (q : List GRaw) (x : Int), yc.l4 a q x = if q.all ym then yc.l11 a 0 [] else some ([], 1)
 | [], x => by rw [yc.l4]; rfl
 | r :: q, x => by
  rw [yc.l4, bnd, qW]
  by_cases h : ym r = true
  · rw [h, if_neg (by decide), putAll_l4 a q]; rfl
  rw [if_pos (by simpa using h), if_neg (by rw [qm]; exact fun hh => h hh.1)]
theorem putAll_eq {l : List GRaw} (h : ∀ r ∈ l, In64 r.fN) : yc l = some (if l.all ym then (if 4096 < (Zv l).length then ([], 4) else (Zv l, 0)) else ([], 1)) := by
 rw [yc, putAll_l4]
 by_cases h1 : l.all ym = true
 · rw [if_pos h1, if_pos h1, putAll_l11 l 0 [] (fun r hr => ⟨ub.1 h1 r hr, h r hr⟩) (by decide)]; rfl
 rw [if_neg h1, if_neg h1]
theorem Ym {b x post : List UInt8} {n : Nat} (h : b.drop n = x ++ post) : b.drop (n + x.length) = post := by
 rw [← u5, h, List.drop_left' rfl]
theorem XJ {b x post : List UInt8} {n : Nat} (hn : n ≤ b.length) (h : b.drop n = x ++ post) : n + x.length + post.length = b.length := by
 have := congrArg qb h
 rw [uJ, qi] at this; omega
theorem one_ok {b post : List UInt8} {n : Nat} {r : GRaw} (hb : b.length ≤ 4096) (hn : n ≤ b.length) (h : b.drop n = X9 r ++ post) (hr : Yu r) : wP b (n : Int) = some (r, ((n + (X9 r).length : Nat) : Int), 0) := by
 obtain ⟨hc, hN⟩ := hr;obtain ⟨h1, h2, h3⟩ := ZK hc
 have k1 : vba r < 2 ^ 64 := by unfold vba; omega
 rw [X9, qq] at h;have hl := XJ hn h;unfold wP;rw [get_ok hb hn h k1, qg];have hk : vba r = (2 * r.fTag + r.fWire).toNat := rfl
 have d1 : ((vba r : Nat) : Int).tdiv 2 = r.fTag := by rw [Int.tdiv_eq_ediv_of_nonneg (by omega), hk]; rcases h3 with h3 | h3 <;> omega
 have d2 : ((vba r : Nat) : Int).tmod 2 = r.fWire := by rw [Int.tmod_eq_emod_of_nonneg (by omega), hk]; rcases h3 with h3 | h3 <;> omega
 simp only [d1, d2];rw [if_pos trivial, if_neg (by rw [u64i (by omega) (by omega)]; simp only [qM, decide_eq_true_eq]; omega), u64i (x := r.fTag) (by omega) (by omega), yx (x := r.fTag) (by omega) (by omega), yx (x := r.fWire) (by omega) (by omega)];have h' := Ym h
 rcases h3 with ⟨h3, h4⟩ | ⟨h3, h4, h5⟩
 · rw [if_pos h3] at h';rw [get_ok hb (by omega) h' (zg_lt hN), qg];simp only [];rw [if_pos trivial, if_pos h3, bnd, vint_Zag_eq (zg_lt hN), zu_zg, X9, if_pos h3]
   have e : r = ⟨r.fTag, r.fWire, r.fN, []⟩ := by cases r; simp only at h4; subst h4; rfl
   rw [← e, qi, u3]
 rw [if_neg (by omega)] at h' hl;rw [qq] at h';have hl' := XJ (by omega) h';rw [qi] at hl';rw [get_ok hb (by omega) h' (show r.fB.length < 2 ^ 64 by omega), qg];simp only [];have h'' := Ym h'
 have e1 : IntKind.i64.wrap ((b.length : Int) - ((n + (vb (vba r)).length + (vb r.fB.length).length : Nat) : Int)) = ((r.fB.length + post.length : Nat) : Int) := by rw [yx (by omega) (by omega)]; omega
 have e2 : IntKind.i64.wrap (r.fB.length : Int) = (r.fB.length : Int) := yx (by omega) (by omega)
 have e3 : IntKind.i64.wrap (((n + (vb (vba r)).length + (vb r.fB.length).length : Nat) : Int) + (r.fB.length : Int)) = ((n + (vb (vba r)).length + (vb r.fB.length).length + r.fB.length : Nat) : Int) := by rw [yx (by omega) (by omega)]; omega
 rw [if_pos trivial, if_neg (by omega), e1, u64w (by omega), if_neg (by omega), e2, e3, Y8 (by omega), qg, YS, qV, qV, h'', Nat.add_sub_cancel_left, List.take_left' rfl, X9, if_neg (by omega), qi, qi]
 have e : r = ⟨r.fTag, r.fWire, 0, r.fB⟩ := by cases r; simp only at h4; subst h4; rfl
 rw [← e, show n + (vb (vba r)).length + (vb r.fB.length).length + r.fB.length = n + ((vb (vba r)).length + ((vb r.fB.length).length + r.fB.length)) by omega]
theorem one_inv {b : List UInt8} {n : Nat} (hb : b.length ≤ 4096) (hn : n ≤ b.length) : ∃ r, wP b (n : Int) = some r ∧
 (r.2.2 = 0 → ∃ x post, b.drop n = X9 x ++ post ∧ Yu x ∧ r = (x, ((n + (X9 x).length : Nat) : Int), 0)) ∧ 0 ≤ r.2.2 := by
 obtain ⟨r1, e1, i1, p1⟩ := get_inv hb hn
 by_cases z1 : r1.2.2 = 0
 · obtain ⟨v, post, hd, hv, rfl⟩ := i1 z1;have hl := XJ hn hd;have hd' := Ym hd
   by_cases c1 : (decide ((v : Int) < 2) || decide ((500 : Int) < IntKind.u64.wrap ((v : Int).tdiv 2))) = true
   · refine ⟨_, by unfold wP; rw [e1, qg, if_pos rfl, if_pos c1], ?_, by decide⟩
     intro h; exact absurd h (by decide)
   have c1' := c1;simp only [qM, decide_eq_true_eq, not_or] at c1;obtain ⟨c2, c3⟩ := c1
   have d1 : (v : Int).tdiv 2 = ((v / 2 : Nat) : Int) := by rw [Int.tdiv_eq_ediv_of_nonneg (by omega)]; omega
   have d2 : (v : Int).tmod 2 = ((v % 2 : Nat) : Int) := by rw [Int.tmod_eq_emod_of_nonneg (by omega)]; omega
   rw [d1, u64w (by omega)] at c3;obtain ⟨r2, e2, i2, p2⟩ := get_inv hb (n := n + (vb v).length) (by omega)
   by_cases z2 : r2.2.2 = 0
   · obtain ⟨w, post2, hd2, hw, rfl⟩ := i2 z2;have hl2 := XJ (by omega) hd2
     by_cases c4 : v % 2 = 0
     · have ok : Yu ⟨((v / 2 : Nat) : Int), 0, zu w, []⟩ := ⟨check_num (by omega) (by omega), zu_in hw⟩
       have hkey : vba ⟨((v / 2 : Nat) : Int), 0, zu w, []⟩ = v := by unfold vba; simp only []; omega
       have hdr : b.drop n = X9 ⟨((v / 2 : Nat) : Int), 0, zu w, []⟩ ++ post2 := by
        rw [X9, hkey, if_pos rfl]; simp only [zg_zu]; rw [hd, ← hd', hd2, qq]
       refine ⟨_, one_ok hb hn hdr ok, ?_, u4 0⟩
       intro _; exact ⟨_, _, hdr, ok, rfl⟩
     have c5 : v % 2 = 1 := by omega
     by_cases c6 : w ≤ post2.length
     · have ok : Yu ⟨((v / 2 : Nat) : Int), 1, 0, post2.take w⟩ := ⟨vaR (by omega) (by omega) (by rw [uI]; omega), (show In64 0 from ⟨by decide, by decide⟩)⟩
       have hkey : vba ⟨((v / 2 : Nat) : Int), 1, 0, post2.take w⟩ = v := by unfold vba; simp only []; omega
       have hdr : b.drop n = X9 ⟨((v / 2 : Nat) : Int), 1, 0, post2.take w⟩ ++ post2.drop w := by
        rw [X9, hkey, if_neg (show ¬ (1 : Int) = 0 by decide)];simp only [uI, Nat.min_eq_left c6];rw [hd, ← hd', hd2, qq, qq, un]
       refine ⟨_, one_ok hb hn hdr ok, ?_, u4 0⟩
       intro _; exact ⟨_, _, hdr, ok, rfl⟩
     have e3 : IntKind.i64.wrap ((b.length : Int) - ((n + (vb v).length + (vb w).length : Nat) : Int)) = ((post2.length : Nat) : Int) := by rw [yx (by omega) (by omega)]; omega
     refine ⟨_, by unfold wP; rw [e1, qg, if_pos rfl, if_neg c1', e2, qg, if_pos rfl, d2, if_neg (by rw [yx (by omega) (by omega)]; omega), e3, u64w (by omega), if_pos (by omega)], ?_, by decide⟩
     intro h; exact absurd h (by decide)
   refine ⟨_, by unfold wP; rw [e1, qg, if_pos rfl, if_neg c1', e2, qg, if_neg z2], ?_, p2⟩
   intro h; exact absurd h z2
 refine ⟨_, by unfold wP; rw [e1, qg, if_neg z1], ?_, p1⟩
 intro h; exact absurd h z1
theorem vaD (r : GRaw) (l : List GRaw) : Zv (r :: l) = X9 r ++ Zv l := by rw [Zv, qT]; rfl
theorem get_l_ok {b : List UInt8} (hb : b.length ≤ 4096) : ∀ (l : List GRaw) (k n : Nat) (acc : List GRaw), n ≤ b.length → b.drop n = Zv l → (∀ r ∈ l, Yu r) → 2 * acc.length ≤ n → b.length < k + n →
 xv.l12 b k acc (n : Int) = some (acc ++ l, 0)
 | l, 0, n, acc, hn, _, _, _, hk => by omega
 | [], k + 1, n, acc, hn, hd, _, _, hk => by
  have := congrArg qb hd;rw [uJ, Zv, ui, ql] at this;rw [xv.l12, if_neg (by omega), qy]
 | r :: l, k + 1, n, acc, hn, hd, hr, ha, hk => by
  rw [vaD] at hd;have hl := XJ hn hd;have h2 := rawB_pos r;rw [xv.l12, if_pos (by omega), one_ok hb hn hd (hr r (qp ..)), qg, if_pos rfl, xF (by omega), qg]
  rw [get_l_ok hb l k (n + (X9 r).length) (acc ++ [r]) (by omega) (Ym hd) (fun s hs => hr s (qr _ hs)) (by rw [qi, qF]; omega) (by omega), qq]; rfl
theorem get_l_inv {b : List UInt8} (hb : b.length ≤ 4096) : ∀ (k n : Nat) (acc : List GRaw), n ≤ b.length → 2 * acc.length ≤ n → b.length < k + n →
 ∃ r, xv.l12 b k acc (n : Int) = some r ∧ (r.2 = 0 → ∃ l, b.drop n = Zv l ∧ (∀ r ∈ l, Yu r) ∧ r = (acc ++ l, 0)) ∧ 0 ≤ r.2 ∧ (r.2 ≠ 0 → r.1 = [])
 | 0, n, acc, hn, _, hk => by omega
 | k + 1, n, acc, hn, ha, hk => by
  by_cases h : n < b.length
  · obtain ⟨r1, e1, i1, p1⟩ := one_inv hb hn
    by_cases z1 : r1.2.2 = 0
    · obtain ⟨x, post, hd, ok, rfl⟩ := i1 z1;have hl := XJ hn hd;have h2 := rawB_pos x;obtain ⟨r2, e2, i2, p2⟩ := get_l_inv hb k (n + (X9 x).length) (acc ++ [x]) (by omega) (by rw [qi, qF]; omega) (by omega);refine ⟨r2, by rw [xv.l12, if_pos (by omega), e1, qg, if_pos rfl, xF (by omega), qg]; exact e2, ?_, p2⟩
      intro hz
      obtain ⟨l, hd2, hok, rfl⟩ := i2 hz;refine ⟨x :: l, ?_, ?_, by rw [qq]; rfl⟩
      · rw [vaD, hd, ← hd2, Ym hd]
      intro s hs
      rcases qK.1 hs with rfl | hs
      · exact ok
      exact hok s hs
    refine ⟨_, by rw [xv.l12, if_pos (by omega), e1, qg, if_neg z1], fun h => absurd h z1, p1, fun _ => rfl⟩
  refine ⟨_, by rw [xv.l12, if_neg (by omega)], fun _ => ⟨[], ?_, (fun r hr => by cases hr), by rw [qy]⟩, u4 0, fun h => absurd rfl h⟩
  rw [List.drop_eq_nil_of_le (by omega)]; rfl
theorem get_rounds : 4097 ≤ rounds := by decide
theorem wire_Get_ok {l : List GRaw} (h : ∀ r ∈ l, Yu r) (hb : (Zv l).length ≤ 4096) : xv (Zv l) = some (l, 0) := by
 rw [xv, if_neg (by omega)];have := get_l_ok hb l rounds 0 [] (uk _) rfl h (qu _) (by have := get_rounds; omega)
 simpa using this
theorem vaT (b : List UInt8) : ∃ r, xv b = some r ∧ (r.2 = 0 → b = Zv r.1 ∧ b.length ≤ 4096 ∧ ∀ x ∈ r.1, Yu x) ∧ 0 ≤ r.2 ∧ (r.2 ≠ 0 → r.1 = []) := by
 by_cases hb : b.length ≤ 4096
 · obtain ⟨r, e, i, p, q⟩ := get_l_inv hb rounds 0 [] (uk _) (qu _) (by have := get_rounds; omega);refine ⟨r, by rw [xv, if_neg (by omega)]; exact e, ?_, p, q⟩
   intro hz
   obtain ⟨l, hd, ok, rfl⟩ := i hz;exact ⟨hd, hb, ok⟩
 refine ⟨_, by rw [xv, if_pos (by omega)], fun h => absurd h (by decide), by decide, fun _ => rfl⟩
end
section
set_option maxRecDepth 4000
open AM
def va0 (r : GRaw) : List GRaw → List GRaw
 | [] => [r]
 | x :: l => if r.fTag < x.fTag then r :: x :: l else x :: va0 r l
def srtA : List GRaw → List GRaw → List GRaw
 | [], S => S
 | r :: q, S => srtA q (va0 r S)
def srt (l : List GRaw) : List GRaw := srtA l []
def TagLe (a b : GRaw) : Prop := a.fTag ≤ b.fTag
theorem vbn {r : GRaw} : ∀ {A B : List GRaw}, (∀ a ∈ A, a.fTag ≤ r.fTag) → (∀ b ∈ B, r.fTag < b.fTag) → va0 r (A ++ B) = A ++ r :: B
 | [], [], _, _ => rfl
 | [], b :: B, _, hB => by
  rw [qA, va0, if_pos (hB b (qp ..))]; rfl
 | a :: A, B, hA, hB => by
  rw [qE, va0, if_neg (by have := hA a (qp ..); omega), vbn (fun x hx => hA x (qr _ hx)) hB]; rfl
theorem insR_mem {r x : GRaw} : ∀ {l : List GRaw}, x ∈ va0 r l ↔ x = r ∨ x ∈ l
 | [] => by simp [va0]
 | y :: l => by
  rw [va0]; split
  · simp
  rw [qK, insR_mem, qK]
  constructor
  · rintro (h | h | h)
    · exact Or.inr (Or.inl h)
    · exact Or.inl h
    exact Or.inr (Or.inr h)
  rintro (h | h | h)
  · exact Or.inr (Or.inl h)
  · exact Or.inl h
  exact Or.inr (Or.inr h)
theorem vbm (r : GRaw) : ∀ l : List GRaw, (va0 r l).length = l.length + 1
 | [] => rfl
 | x :: l => by
  rw [va0]; split
  · rfl
  rw [qj, vbm r l, qj]
theorem ZH {r : GRaw} : ∀ {l : List GRaw}, l.Pairwise TagLe → (va0 r l).Pairwise TagLe
 | [], _ => by simp [va0]
 | x :: l, h => by
  rw [um] at h
  rw [va0]; split
  · rename_i hlt
    rw [um, um];refine ⟨?_, h⟩
    intro y hy
    rcases qK.1 hy with rfl | hy
    · unfold TagLe; omega
    have := h.1 y hy; unfold TagLe at *; omega
  rename_i hge
  rw [um];refine ⟨?_, ZH h.2⟩
  intro y hy
  rcases insR_mem.1 hy with rfl | hy
  · unfold TagLe; omega
  exact h.1 y hy
theorem vbW {r : GRaw} (t : Int) : ∀ {l : List GRaw}, l.Pairwise TagLe → (va0 r l).filter (fun x => x.fTag = t) = l.filter (fun x => x.fTag = t) ++ (if r.fTag = t then [r] else [])
 | [], _ => by rw [va0, List.filter_nil, qA, uB, List.filter_nil]; simp only [decide_eq_true_eq]
 | x :: l, h => by
  rw [um] at h
  rw [va0]; split
  · rename_i hlt
    rw [uB]
    by_cases hr : r.fTag = t
    · have hn : (x :: l).filter (fun x => x.fTag = t) = [] := by
       rw [List.filter_eq_nil_iff]
       intro y hy
       simp only [decide_eq_true_eq]
       rcases qK.1 hy with rfl | hy
       · omega
       have := h.1 y hy; unfold TagLe at this; omega
      rw [hn, if_pos (by simpa using hr), if_pos hr]; rfl
    rw [if_neg (by simpa using hr), if_neg hr, qy]
  rw [uB, uB, vbW t h.2]
  split <;> rfl
theorem vbC : ∀ {l S : List GRaw}, S.Pairwise TagLe → (srtA l S).Pairwise TagLe
 | [], _, h => h
 | r :: l, S, h => by rw [srtA]; exact vbC (l := l) (ZH h)
theorem vaz (l : List GRaw) : (srt l).Pairwise TagLe := vbC List.Pairwise.nil
theorem srtA_mem {x : GRaw} : ∀ {l S : List GRaw}, x ∈ srtA l S ↔ x ∈ S ∨ x ∈ l
 | [], S => by simp [srtA]
 | r :: l, S => by
  rw [srtA, srtA_mem, insR_mem, qK]
  constructor
  · rintro ((h | h) | h)
    · exact Or.inr (Or.inl h)
    · exact Or.inl h
    exact Or.inr (Or.inr h)
  rintro (h | h | h)
  · exact Or.inl (Or.inr h)
  · exact Or.inl (Or.inl h)
  exact Or.inr h
theorem srt_mem {x : GRaw} {l : List GRaw} : x ∈ srt l ↔ x ∈ l := by rw [srt, srtA_mem]; simp
theorem vbD (t : Int) : ∀ {l S : List GRaw}, S.Pairwise TagLe → (srtA l S).filter (fun x => x.fTag = t) = S.filter (fun x => x.fTag = t) ++ l.filter (fun x => x.fTag = t)
 | [], S, _ => by rw [srtA, List.filter_nil, qy]
 | r :: l, S, h => by
  rw [srtA, vbD t (ZH h), vbW t h, uB, qq]
  congr 1
  simp only [decide_eq_true_eq]
  split <;> rfl
theorem vaA (l : List GRaw) (t : Int) : (srt l).filter (fun x => x.fTag = t) = l.filter (fun x => x.fTag = t) := by
 rw [srt, vbD t List.Pairwise.nil]; rfl
theorem srtA_id : ∀ {l S : List GRaw}, (S ++ l).Pairwise TagLe → srtA l S = S ++ l
 | [], S, _ => by rw [srtA, qy]
 | r :: l, S, h => by
  have hS : ∀ a ∈ S, a.fTag ≤ r.fTag := fun a ha => (List.pairwise_append.1 h).2.2 a ha r (qp ..)
  have e : va0 r S = S ++ [r] := by
   have := vbn (r := r) (A := S) (B := []) hS (fun b hb => by cases hb)
   rwa [qy] at this
  rw [srtA, e, srtA_id (by rwa [qq]), qq]; rfl
theorem srt_id {l : List GRaw} (h : l.Pairwise TagLe) : srt l = l := srtA_id (S := []) h
theorem sorted_ext : ∀ {l m : List GRaw}, l.Pairwise TagLe → m.Pairwise TagLe → (∀ t : Int, l.filter (fun x => x.fTag = t) = m.filter (fun x => x.fTag = t)) → l = m
 | [], [], _, _, _ => rfl
 | [], y :: m, _, _, h => by
  have := h y.fTag
  rw [List.filter_nil, uB, if_pos (by simp)] at this; cases this
 | x :: l, [], _, _, h => by
  have := h x.fTag
  rw [List.filter_nil, uB, if_pos (by simp)] at this; cases this
 | x :: l, y :: m, hl, hm, h => by
  rw [um] at hl hm
  have hxy : x.fTag = y.fTag := by
   have h1 : x ∈ (y :: m).filter (fun z => z.fTag = x.fTag) := by rw [← h, uB, if_pos (by simp)]; exact qp ..
   have h2 : y ∈ (x :: l).filter (fun z => z.fTag = y.fTag) := by rw [h, uB, if_pos (by simp)]; exact qp ..
   have a1 : y.fTag ≤ x.fTag := by
    rcases qK.1 (List.mem_filter.1 h1).1 with e | h1
    · rw [e]; exact u4 _
    exact hm.1 x h1
   have a2 : x.fTag ≤ y.fTag := by
    rcases qK.1 (List.mem_filter.1 h2).1 with e | h2
    · rw [e]; exact u4 _
    exact hl.1 y h2
   omega
  have e : x = y := by
   have := h x.fTag;rw [uB, uB, if_pos (by simp), if_pos (by simp [hxy])] at this
   injection this
  subst e
  congr 1
  refine sorted_ext hl.2 hm.2 fun t => ?_
  have := h t;rw [uB, uB] at this
  split at this
  · injection this
  exact this
theorem srt_of {l m : List GRaw} (hm : m.Pairwise TagLe) (h : ∀ t : Int, l.filter (fun x => x.fTag = t) = m.filter (fun x => x.fTag = t)) : srt l = m :=
 sorted_ext (vaz l) hm fun t => by rw [vaA, h]
theorem Yj {α : Type} {A B : List α} {x : α} {i : Int} (h : i = A.length) : Zb (A ++ x :: B) i = some x := by
 subst h
 rw [Zb, if_pos (by omega), qV, uh (qu _), uL]; rfl
theorem idx_t {α : Type} {l : List α} {i : Int} {x : α} (h0 : 0 ≤ i) (h : l[i.toNat]? = some x) : Zb l i = some x := by rw [Zb, if_pos h0, h]
theorem sorted_l17 {r z : GRaw} {S P : List GRaw} (rec8 : Int → List GRaw → Option (List GRaw)) : ∀ (k : Nat) (A B : List GRaw), S = A ++ B → (∀ b ∈ B, r.fTag < b.fTag) → A.Pairwise TagLe → A.length < k → S.length < 1000000 →
 zM.l17 (S.length : Int) (S ++ z :: P) rec8 r k (A.length : Int) = rec8 ((S.length : Int) + 1) (va0 r S ++ P)
 | 0, _, _, _, _, _, h, _ => by omega
 | k + 1, A, B, hS, hB, hA, hk, hn => by
  have stop : (∀ a ∈ A, a.fTag ≤ r.fTag) → zM.j20 (S.length : Int) (S ++ z :: P) rec8 r (A.length : Int) (zM.l17 (S.length : Int) (S ++ z :: P) rec8 r k) false = rec8 ((S.length : Int) + 1) (va0 r S ++ P) := by
   intro hle
   have hl : S.length = A.length + B.length := by rw [hS, qi]
   have e1 : IntKind.i64.wrap ((A.length : Int) + 1) = ((A.length + 1 : Nat) : Int) := by rw [yx (by omega) (by omega)]; omega
   rw [zM.j20, if_neg (by decide), e1, Y8 (by rw [qi, qj]; omega), qg, Y8 (by rw [qi, qj]; omega), qg]
   have e2 : qH ((S.length : Int) + 1) = S.length + 1 := by omega
   rw [qV, qV, qV, e2, show min (S.length - A.length) (S.length + 1 - (A.length + 1)) = B.length by omega]
   have hc : ∃ w : GRaw, A.length < (S ++ z :: P).length ∧ XM (S ++ z :: P) (A.length + 1) A.length B.length = A ++ w :: (B ++ P) := by
    cases hB' : B with
    | nil =>
     subst hB';rw [qy] at hS;refine ⟨z, by rw [hS, qi, qj]; omega, ?_⟩;rw [XM, hS, ql, List.take_zero, qA, uR, List.drop_append, List.drop_eq_nil_of_le (by omega), List.take_append, ug (by omega)];rw [show A.length + 1 - A.length = 1 by omega]
     simp
    | cons b B' =>
     refine ⟨b, by rw [hS, hB', qi, qi, qj]; omega, ?_⟩;rw [hS, hB', XM]
     have t1 : ((A ++ b :: B') ++ z :: P).take (A.length + 1) = A ++ [b] := by
      rw [qq, List.take_append, ug (by omega), show A.length + 1 - A.length = 1 by omega]; rfl
     have t2 : (((A ++ b :: B') ++ z :: P).drop A.length).take (b :: B').length = b :: B' := by
      rw [qq, List.drop_left' rfl, List.take_left' rfl]
     have t3 : ((A ++ b :: B') ++ z :: P).drop (A.length + 1 + (b :: B').length) = P := by
      rw [show (A ++ b :: B') ++ z :: P = ((A ++ b :: B') ++ [z]) ++ P by rw [qq (A ++ b :: B')]; rfl];rw [List.drop_left']
      simp only [qi, qj, ql]; omega
     rw [t1, t2, t3];simp only [qq, qE, qA]
   obtain ⟨w, hlt, hc⟩ := hc
   rw [hc, Yj rfl, qg, setI, qV, List.set_append_right _ _ (qu _), uL, uv, hS, vbn hle hB, qq]; rfl
  rcases List.eq_nil_or_concat A with rfl | ⟨A', a, rfl⟩
  · rw [zM.l17, if_neg (by simp)];exact stop (fun a ha => by cases ha)
  rw [List.concat_eq_append] at *
  have hlA : (A' ++ [a]).length = A'.length + 1 := by rw [qi, qF]
  have hlS : S.length = (A' ++ [a]).length + B.length := by rw [hS, qi]
  have e1 : IntKind.i64.wrap (((A' ++ [a]).length : Int) - 1) = (A'.length : Int) := by
   rw [yx (by omega) (by omega)]; omega
  rw [zM.l17, if_pos (by omega), e1]
  have ei : Zb (S ++ z :: P) (A'.length : Int) = some a := by
   rw [hS, qq, qq]; exact Yj rfl
  rw [ei, qg]
  by_cases hgt : r.fTag < a.fTag
  · rw [decide_eq_true hgt, zM.j20, if_pos rfl, e1];refine sorted_l17 rec8 k A' (a :: B) (by rw [hS, qq]; rfl) ?_ (List.pairwise_append.1 hA).1 (by omega) hn
    intro b hb
    rcases qK.1 hb with rfl | hb
    · exact hgt
    exact hB b hb
  rw [decide_eq_false hgt];refine stop ?_
  intro x hx
  rcases uw.1 hx with hx | hx
  · have := (List.pairwise_append.1 hA).2.2 x hx a (uA.2 rfl)
    unfold TagLe at this; omega
  rw [uA] at hx; subst hx; omega
theorem sorted_l8 : ∀ (q S P : List GRaw), P.length = q.length → S.Pairwise TagLe → S.length + q.length < 1000000 → zM.l8 q (S.length : Int) (S ++ P) = some (srtA q S)
 | [], S, P, hP, _, _ => by
  have : P = [] := qI.1 (by simpa using hP);subst this;rw [zM.l8, srtA, qy]
 | r :: q, S, [], hP, _, _ => by cases hP
 | r :: q, S, z :: P, hP, hS, hn => by
  rw [qj] at hn;rw [zM.l8, sorted_l17 (S := S) (zM.l8 q) rounds S [] (qy S).symm (fun b hb => by cases hb) hS (uf (show S.length < 1000000 by omega) (by decide)) (by omega)]
  have e : (S.length : Int) + 1 = ((va0 r S).length : Int) := by rw [vbm]; omega
  rw [e, sorted_l8 q (va0 r S) P (by simpa using hP) (ZH hS) (by rw [vbm]; omega), srtA]
theorem sorted_eq {l : List GRaw} (h : l.length < 1000000) : zM l = some (srt l) := by
 rw [zM, Y8 (by omega), qg, qV];exact sorted_l8 l [] _ List.length_replicate List.Pairwise.nil (by rw [ql]; omega)
end
section
set_option maxRecDepth 4000
open AM
theorem Yr (s : List UInt8) (p : Nat) : 1 ≤ (Yz s p).2 := by
 unfold Yz Utf8.decode
 dsimp only
 repeat' split
 all_goals first | exact qu 1 | exact (by decide : 1 ≤ 2) | exact (by decide : 1 ≤ 3) | exact (by decide : 1 ≤ 4)
theorem runesNext_t (a : List UInt8) (n : Nat) (h : a.length ≤ 9223372036854775807) : ∃ r, wr a (n : Int) = some r := by
 unfold wr
 split
 · exact ⟨_, rfl⟩
 rename_i h1
 simp only [qM, decide_eq_true_eq, not_or] at h1;rw [Y8 (by omega), qg, bnd]
 split <;> exact ⟨_, rfl⟩
theorem vaV (a : List UInt8) (h : a.length ≤ 9223372036854775807) : ∀ (k p : Nat), 0 < k → a.length < p + k → ∃ v, yD.l4 a k p = some v
 | 0, p, h0, hk => by omega
 | k + 1, p, _, hk => by
  have hd := Yr a p;rw [yD.l4]
  split
  · have ih := vaV a h k (p + (Yz a p).2) (by omega) (by omega)
    split
    · obtain ⟨r, e⟩ := runesNext_t a p h;rw [e, qg]
      split
      · exact ⟨_, rfl⟩
      exact ih
    exact ih
  exact ⟨_, rfl⟩
theorem yH : 9223372036854775808 ≤ rounds := by decide
def vbF (b : List UInt8) : Bool := (yD b).getD false
theorem runesV_eq {a : List UInt8} (h : a.length ≤ 9223372036854775807) : yD a = some (vbF a) := by
 obtain ⟨v, e⟩ := vaV a h rounds 0 (by have := yH; omega) (by have := yH; omega);unfold vbF
 rw [show yD a = some v from e]; rfl
theorem wq (t : Int) (l : List GTree) : (GEntry.mk t l).fTag = t := rfl
theorem w7 (t : Int) (l : List GTree) : (GEntry.mk t l).fTrees = l := rfl
def YY (a b : GEntry) : Prop := a.fTag < b.fTag
def Ya (t : Int) (rep : Prop) [Decidable rep] (x : GTree) : List GEntry → List GEntry
 | [] => [⟨t, [x]⟩]
 | e :: l => if e.fTag < t then e :: Ya t rep x l else if e.fTag = t then ⟨t, (if rep then e.fTrees else []) ++ [x]⟩ :: l else ⟨t, [x]⟩ :: e :: l
def vaF (t : Int) (rep : Prop) [Decidable rep] : List GEntry → Nat
 | [] => 1
 | e :: l => if e.fTag < t then vaF t rep l else if e.fTag = t then (if rep then e.fTrees.length else 0) + 1 else 1
theorem vbh {t : Int} {rep : Prop} [Decidable rep] {x : GTree} {B : List GEntry} : ∀ {A : List GEntry}, (∀ a ∈ A, a.fTag < t) → Ya t rep x (A ++ B) = A ++ Ya t rep x B
 | [], _ => rfl
 | a :: A, h => by
  rw [qE, Ya, if_pos (h a (qp ..)), vbh fun b hb => h b (qr _ hb)]; rfl
theorem vbg {t : Int} {rep : Prop} [Decidable rep] {B : List GEntry} : ∀ {A : List GEntry}, (∀ a ∈ A, a.fTag < t) → vaF t rep (A ++ B) = vaF t rep B
 | [], _ => rfl
 | a :: A, h => by
  rw [qE, vaF, if_pos (h a (qp ..)), vbg fun b hb => h b (qr _ hb)]
theorem splitE (t : Int) : ∀ {es : List GEntry}, es.Pairwise YY → ∃ A B, es = A ++ B ∧ (∀ a ∈ A, a.fTag < t) ∧ (∀ b ∈ B, t ≤ b.fTag)
 | [], _ => ⟨[], [], rfl, (fun _ h => by cases h), (fun _ h => by cases h)⟩
 | e :: es, h => by
  rw [um] at h
  by_cases he : e.fTag < t
  · obtain ⟨A, B, rfl, hA, hB⟩ := splitE t h.2;refine ⟨e :: A, B, rfl, ?_, hB⟩
    intro a ha
    rcases qK.1 ha with rfl | ha
    · exact he
    exact hA a ha
  refine ⟨[], e :: es, rfl, (fun _ h => by cases h), ?_⟩
  intro b hb
  rcases qK.1 hb with rfl | hb
  · omega
  have := h.1 b hb; unfold YY at this; omega
theorem put1_eq {e : GEntry} {t : Int} (h1 : 1 ≤ e.fTag ∧ e.fTag ≤ 500) (h2 : 1 ≤ t ∧ t ≤ 500) : xO e t = e.fTag - t := by
 unfold xO; exact yx (by omega) (by omega)
theorem half {x y : Nat} (h : x + y < 9223372036854775808) : IntKind.i64.wrap (Int.fdiv (IntKind.u64.wrap (IntKind.i64.wrap ((x : Int) + (y : Int)))) (2 ^ (min (qH 1) 64))) = (((x + y) / 2 : Nat) : Int) := by
 rw [yx (x := (x : Int) + y) (by omega) (by omega), u64i (by omega) (by omega), show min (qH 1) 64 = 1 from rfl, Int.fdiv_eq_ediv_of_nonneg _ (by decide), yx (by omega) (by omega)]
 omega
def YN (t : Int) : List GEntry → Bool
 | [] => false
 | b :: _ => decide (b.fTag = t)
theorem bs_l {t : Int} {A B : List GEntry} (ht : 1 ≤ t ∧ t ≤ 500) (hA : ∀ a ∈ A, a.fTag < t) (hB : ∀ b ∈ B, t ≤ b.fTag) (hr : ∀ e ∈ A ++ B, 1 ≤ e.fTag ∧ e.fTag ≤ 500) (hn : (A ++ B).length < 4611686018427387904) :
 ∀ (k x y : Nat), x ≤ A.length → A.length ≤ y → y ≤ (A ++ B).length → y < x + k → zk.l6 (A ++ B) t k (x : Int) (y : Int) = some ((A.length : Int), YN t B)
 | 0, x, y, _, _, _, hk => by omega
 | k + 1, x, y, hx, hy, hl, hk => by
  rw [zk.l6]
  by_cases hlt : x < y
  · rw [if_pos (by omega), half (by omega)]
    have hm : (x + y) / 2 < (A ++ B).length := by omega
    rw [idx_t (by omega) (show (A ++ B)[qH (((x + y) / 2 : Nat) : Int)]? = some ((A ++ B)[(x + y) / 2]'hm) by rw [qV]; exact qX hm), qg, bnd, put1_eq (hr _ (List.getElem_mem hm)) ht]
    by_cases hc : (x + y) / 2 < A.length
    · have e : (A ++ B)[(x + y) / 2]'hm = A[(x + y) / 2]'hc := List.getElem_append_left hc;have := hA _ (List.getElem_mem hc);rw [e, if_pos (by omega), yx (by omega) (by omega), show (((x + y) / 2 : Nat) : Int) + 1 = (((x + y) / 2 + 1 : Nat) : Int) by omega];exact bs_l ht hA hB hr hn k _ y (by omega) hy hl (by omega)
    have hlB : (x + y) / 2 - A.length < B.length := by rw [qi] at hm; omega
    have e : (A ++ B)[(x + y) / 2]'hm = B[(x + y) / 2 - A.length]'hlB := List.getElem_append_right (by omega);have := hB _ (List.getElem_mem hlB);rw [e, if_neg (by omega)];exact bs_l ht hA hB hr hn k x _ hx (by omega) (by omega) (by omega)
  have e : x = A.length := by omega
  subst e;rw [if_neg (by omega)]
  cases B with
  | nil => rw [qy, if_neg (by omega)]; rfl
  | cons b B =>
   rw [if_pos (by rw [qi, qj]; omega), Yj rfl, qg, bnd, put1_eq (hr b (uo _ (qp ..))) ht, qg, YN]
   congr 2
   exact decide_eq_decide.2 (by omega)
theorem decode_put_eq {es : List GEntry} {f : GField} {x : GTree} (hs : es.Pairwise YY) (hr : ∀ e ∈ es, 1 ≤ e.fTag ∧ e.fTag ≤ 500) (hf : 1 ≤ f.fTag ∧ f.fTag ≤ 500) (hn : es.length < 1000000) (ht : ∀ e ∈ es, e.fTrees.length < 1000000) :
 YQ es f x = some (Ya f.fTag (f.fLabel = 3) x es, decide (vaF f.fTag (f.fLabel = 3) es ≤ 64)) := by
 obtain ⟨A, B, rfl, hA, hB⟩ := splitE f.fTag hs;have hln : (A ++ B).length = A.length + B.length := qi;have bs : zk (A ++ B) f.fTag = some ((A.length : Int), YN f.fTag B) := bs_l hf hA hB hr (by omega) rounds 0 (A ++ B).length (uk _) (by omega) (qu _) (by have := yH; omega);rw [YQ, bs, qg, vbh hA, vbg hA]
 have ins : ∀ (B : List GEntry), (A ++ B).length < 1000000 → YN f.fTag B = false → (∀ b ∈ B, f.fTag ≤ b.fTag) → ((if ((A.length : Int), YN f.fTag B).2 = true then some (A ++ B) else (grd (0 ≤ ((A.length : Int), YN f.fTag B).1 ∧ ((A.length : Int), YN f.fTag B).1 ≤ ((A ++ B).length : Int))).bind fun _ => (Yf ((A ++ B).length + 1) 32).bind fun _ => some ((A ++ B).take ((A.length : Int), YN f.fTag B).1.toNat ++ ⟨f.fTag, []⟩ :: (A ++ B).drop ((A.length : Int), YN f.fTag B).1.toNat)).bind fun es1 =>
  (Zb es1 ((A.length : Int), YN f.fTag B).1).bind fun e =>
  (Yf ((if f.fLabel = 3 then e.fTrees.length else 0) + 1) 80).bind fun _ =>
  some (es1.set ((A.length : Int), YN f.fTag B).1.toNat ⟨e.fTag, (if f.fLabel = 3 then e.fTrees else []) ++ [x]⟩, decide ((((if f.fLabel = 3 then e.fTrees else []) ++ [x]).length : Int) ≤ 64))) = some (A ++ ⟨f.fTag, [x]⟩ :: B, true) := by
  intro B hln hh _
  have hl2 : (A ++ B).length = A.length + B.length := qi;rw [hh];simp only [qV];rw [if_neg (by decide), Y8 (by omega), qg, xF (by omega), qg, qg, List.take_left' rfl, List.drop_left' rfl, Yj rfl, qg, xF (by rw [w7]; split <;> decide), qg, List.set_append_right _ _ (qu _), uL, uv]
  simp only [wq, w7, ite_self, qA, qF]; rfl
 cases B with
 | nil =>
  rw [ins [] hn rfl (fun _ h => by cases h)]; rfl
 | cons b B =>
  have hb := hB b (qp ..)
  by_cases hbt : b.fTag = f.fTag
  · have hh : YN f.fTag (b :: B) = true := decide_eq_true hbt;have htb := ht b (uo _ (qp ..));rw [hh];simp only [qV];rw [if_pos trivial, qg, Yj rfl, qg, xF (by split <;> omega), qg, List.set_append_right _ _ (qu _), uL, uv, Ya, if_neg (show ¬ b.fTag < f.fTag by omega), if_pos hbt, vaF, if_neg (show ¬ b.fTag < f.fTag by omega), if_pos hbt, hbt]
    congr 2
    refine decide_eq_decide.2 ?_;rw [qi, qF]
    by_cases h3 : f.fLabel = 3
    · rw [if_pos h3, if_pos h3]; omega
    rw [if_neg h3, if_neg h3, ql]; omega
  have hh : YN f.fTag (b :: B) = false := decide_eq_false hbt
  rw [ins (b :: B) hn hh hB, Ya, if_neg (by omega), if_neg hbt, vaF, if_neg (by omega), if_neg hbt]; rfl
theorem putE_mem {t : Int} {rep : Prop} [Decidable rep] {x : GTree} {e : GEntry} : ∀ {es : List GEntry}, e ∈ Ya t rep x es → e ∈ es ∨ e.fTag = t
 | [], h => by rw [Ya, uA] at h; subst h; exact Or.inr rfl
 | a :: es, h => by
  rw [Ya] at h; split at h
  · rcases qK.1 h with rfl | h
    · exact Or.inl (qp ..)
    rcases putE_mem h with h | h
    · exact Or.inl (qr _ h)
    exact Or.inr h
  split at h
  · rcases qK.1 h with rfl | h
    · exact Or.inr rfl
    exact Or.inl (qr _ h)
  rcases qK.1 h with rfl | h
  · exact Or.inr rfl
  exact Or.inl h
theorem vbQ {t : Int} {rep : Prop} [Decidable rep] {x : GTree} : ∀ {es : List GEntry}, es.Pairwise YY → (Ya t rep x es).Pairwise YY
 | [], _ => by simp [Ya]
 | a :: es, h => by
  rw [um] at h
  rw [Ya]; split
  · rename_i hlt
    rw [um];refine ⟨?_, vbQ h.2⟩
    intro b hb
    rcases putE_mem hb with hb | hb
    · exact h.1 b hb
    unfold YY; omega
  split
  · rename_i hge heq
    rw [um];refine ⟨?_, h.2⟩
    intro b hb
    have := h.1 b hb; unfold YY at *; simp only [wq]; omega
  rename_i hge hne
  rw [um, um];refine ⟨?_, h⟩
  intro b hb
  rcases qK.1 hb with rfl | hb
  · unfold YY; simp only [wq]; omega
  have := h.1 b hb; unfold YY at *; simp only [wq]; omega
theorem putE_len {t : Int} {rep : Prop} [Decidable rep] {x : GTree} : ∀ {es : List GEntry}, (Ya t rep x es).length ≤ es.length + 1
 | [] => by rw [Ya]; exact qu _
 | a :: es => by
  rw [Ya]; split
  · rw [qj, qj]; have := putE_len (t := t) (rep := rep) (x := x) (es := es); omega
  split <;> simp only [qj] <;> omega
theorem putE_all {t : Int} {rep : Prop} [Decidable rep] {x : GTree} {e : GEntry} : ∀ {es : List GEntry}, e ∈ Ya t rep x es → e ∈ es ∨ (e.fTag = t ∧ e.fTrees.length = vaF t rep es ∧ e.fTrees ≠ [])
 | [], h => by rw [Ya, uA] at h; subst h; exact Or.inr ⟨rfl, rfl, by rw [w7]; simp⟩
 | a :: es, h => by
  rw [Ya] at h; rw [vaF]; split at h
  · rename_i hlt
    rw [if_pos hlt]
    rcases qK.1 h with rfl | h
    · exact Or.inl (qp ..)
    rcases putE_all h with h | h
    · exact Or.inl (qr _ h)
    exact Or.inr h
  rename_i hlt
  rw [if_neg hlt]
  split at h
  · rename_i heq
    rw [if_pos heq]
    rcases qK.1 h with rfl | h
    · refine Or.inr ⟨rfl, ?_, by rw [w7]; simp⟩
      simp only [w7, qi, qF]; split <;> rfl
    exact Or.inl (qr _ h)
  rename_i hne
  rw [if_neg hne]
  rcases qK.1 h with rfl | h
  · exact Or.inr ⟨rfl, rfl, by rw [w7]; simp⟩
  exact Or.inl h
def Yt : GTree := ⟨0, 0, [], [], []⟩
def isZ (m : GMessage) (e : GEntry) : Bool := decide ((zi m e.fTag).1.fLabel = 1) && xN (e.fTrees.headD Yt)
def zdel (m : GMessage) (es : List GEntry) : List GEntry := es.filter fun e => !isZ m e
theorem vap {m : GMessage} : ∀ {es : List GEntry}, (∀ e ∈ es, e.fTrees ≠ []) → wM m es = some (zdel m es)
 | [], _ => rfl
 | e :: es, h => by
  have he := h e (qp ..);rw [wM, xm, bnd]
  have e1 : (if (zi m e.fTag).1.fLabel = 1 then (Zb e.fTrees 0).bind fun y2 => bnd (xN y2) fun r5 => some r5 else some false) = some (isZ m e) := by
   unfold isZ
   split
   · rename_i hl
     cases ht : e.fTrees with
     | nil => exact absurd ht he
     | cons a l =>
      rw [idx_t (u4 0) (show (a :: l)[qH 0]? = some a from rfl), qg, bnd, hl]; rfl
   rename_i hl
   rw [decide_eq_false hl, Bool.false_and]
  rw [e1, qg, qg, vap fun a ha => h a (qr _ ha), qg]
  unfold zdel; rw [uB]
  cases isZ m e <;> rfl
def XT (m : GMessage) (one : GType → GRaw → GTree × Int) : List GRaw → List GEntry → List GRaw → GTree × Int
 | [], es, rest => (⟨3, 0, [], zdel m es, srt rest⟩, 0)
 | r :: q, es, rest =>
  if (zi m r.fTag).2 = true then
   (if (one (zi m r.fTag).1.fType r).2 = 0 then
    (if vaF r.fTag ((zi m r.fTag).1.fLabel = 3) es ≤ 64 then XT m one q (Ya r.fTag ((zi m r.fTag).1.fLabel = 3) (one (zi m r.fTag).1.fType r).1 es) rest else (Yt, 4))
   else (Yt, (one (zi m r.fTag).1.fType r).2))
  else XT m one q es (rest ++ [r])
theorem XV {m : GMessage} {t : Int} (h : (zi m t).2 = true) : (zi m t).1.fTag = t ∧ (zi m t).1 ∈ m.fFields := by
 have key : ∀ (l : List GField) (i : Int), (zi.l4 t l i).2 = true → (zi.l4 t l i).1.fTag = t ∧ (zi.l4 t l i).1 ∈ l := by
  intro l
  induction l with
  | nil => intro i h; cases h
  | cons f l ih =>
   intro i h
   rw [zi.l4] at h ⊢
   split at h
   · rename_i hf
     rw [if_pos hf]; exact ⟨hf, qp ..⟩
   rename_i hf
   rw [if_neg hf];obtain ⟨h1, h2⟩ := ih _ h;exact ⟨h1, qr _ h2⟩
 exact key m.fFields 0 h
theorem fldD_eq {self : GSchema → GType → GRaw → Int → Option (GTree × Int)} {s : GSchema} {m : GMessage} {deep : Int} {one : GType → GRaw → GTree × Int} :
 ∀ {l : List GRaw} {es : List GEntry} {rest : List GRaw}, (∀ r ∈ l, 1 ≤ r.fTag ∧ r.fTag ≤ 500) → (∀ r ∈ l, ∀ y, self s y r deep = some (one y r)) → es.Pairwise YY → (∀ e ∈ es, (1 ≤ e.fTag ∧ e.fTag ≤ 500) ∧ e.fTrees ≠ [] ∧ e.fTrees.length ≤ 64) → es.length + l.length < 100000 → rest.length + l.length < 100000 →
 zz.l self s m deep l es rest = some (XT m one l es rest)
 | [], es, rest, _, _, _, he, hn, hn' => by
  rw [zz.l, xF (by simp only [ql] at hn; omega), qg, vap fun e h => (he e h).2.1, qg, sorted_eq (by simp only [ql] at hn'; omega), qg, XT]
 | r :: l, es, rest, ht, ho, hs, he, hn, hn' => by
  rw [qj] at hn hn';have hr := ht r (qp ..)
  have ht' : ∀ r ∈ l, 1 ≤ r.fTag ∧ r.fTag ≤ 500 := fun x hx => ht x (qr _ hx)
  have ho' : ∀ r ∈ l, ∀ y, self s y r deep = some (one y r) := fun x hx => ho x (qr _ hx)
  rw [zz.l, bnd, XT]
  by_cases hf : (zi m r.fTag).2 = true
  · obtain ⟨hft, _⟩ := XV hf;rw [if_pos hf, if_pos hf, ho r (qp ..), qg]
    by_cases h0 : (one (zi m r.fTag).1.fType r).2 = 0
    · rw [if_pos h0, if_pos h0, decode_put_eq hs (fun e h => (he e h).1) (by rw [hft]; exact hr) (by omega) (fun e h => by have := (he e h).2.2; omega), qg, hft]
      by_cases hp : vaF r.fTag ((zi m r.fTag).1.fLabel = 3) es ≤ 64
      · rw [if_pos hp, if_pos (decide_eq_true hp)];refine fldD_eq (es := Ya r.fTag ((zi m r.fTag).1.fLabel = 3) (one (zi m r.fTag).1.fType r).1 es) ht' ho' (vbQ hs) ?_ (by have := putE_len (t := r.fTag) (rep := (zi m r.fTag).1.fLabel = 3) (x := (one (zi m r.fTag).1.fType r).1) (es := es); omega) (by omega)
        intro e h
        rcases putE_all h with h | ⟨h1, h2, h3⟩
        · exact he e h
        exact ⟨by rw [h1]; exact hr, h3, by omega⟩
      rw [if_neg hp, if_neg (by simpa using hp)]; rfl
    rw [if_neg h0, if_neg h0]; rfl
  rw [if_neg hf, if_neg hf, xF (by omega), qg];exact fldD_eq ht' ho' hs he (by omega) (by rw [qi, qF]; omega)
def va9 (s : GSchema) (n : List UInt8) : GMessage := (zC s n).1
def oneD (msg : GMessage → List UInt8 → GTree × Int) (s : GSchema) (y : GType) (r : GRaw) : GTree × Int :=
 if (if y.fKind = 4 ∨ y.fKind = 5 ∨ y.fKind = 7 then r.fWire = 1 else r.fWire = 0) then
  (if y.fKind = 3 ∨ y.fKind = 6 then (if xC y r.fN = true then (⟨1, r.fN, [], [], []⟩, 0) else (Yt, 11))
  else if y.fKind = 4 then (if vbF r.fB = true then (⟨2, 0, r.fB, [], []⟩, 0) else (Yt, 9))
  else if y.fKind = 7 then msg (va9 s y.fName) r.fB
  else (if r.fWire = 1 then ⟨2, 0, r.fB, [], []⟩ else ⟨1, r.fN, [], [], []⟩, 0))
 else (Yt, 8)
theorem oneD_eq {self : GSchema → GMessage → List UInt8 → Int → Option (GTree × Int)} {self2 : GSchema → GType → GRaw → Int → Option (GTree × Int)} {s : GSchema} {y : GType} {r : GRaw} {deep : Int} {msg : GMessage → List UInt8 → GTree × Int} (hw : r.fWire = 0 ∨ r.fWire = 1) (hb : r.fB.length ≤ 4096) (hd : deep < 1000) (hd' : 0 ≤ deep) (hs : self s (va9 s y.fName) r.fB (deep + 1) = some (msg (va9 s y.fName) r.fB)) :
 zP.body self self2 s y r deep = some (oneD msg s y r) := by
 have hv := runesV_eq (a := r.fB) (by omega);have ed : IntKind.i64.wrap (deep + 1) = deep + 1 := yx (by omega) (by omega)
 have hm : ∀ z : GTree × Int, some (z.1, z.2) = some z := fun z => rfl
 unfold zP.body zP.j2 zP.j26 zP.j3 zP.j6 zP.j4 oneD bnd;unfold va9 at hs ⊢;simp only [Y8 (show r.fB.length ≤ 9223372036854775807 by omega), hv, ed, qg, hs]
 rcases hw with hw | hw <;> simp only [hw, reduceIte, reduceCtorEq, uZ] <;>
  by_cases k4 : y.fKind = 4 <;> by_cases k5 : y.fKind = 5 <;> by_cases k7 : y.fKind = 7 <;> by_cases k3 : y.fKind = 3 <;> by_cases k6 : y.fKind = 6 <;>
  first
   | (exfalso; omega)
   | (simp only [k4, k5, k7, k3, k6, reduceIte, reduceCtorEq, uZ, decide_true, decide_false, or_true, true_or, or_false, false_or, or_self, q1] <;> first | rfl | (cases xC y r.fN <;> rfl) | (cases vbF r.fB <;> rfl))
def getD (b : List UInt8) : List GRaw × Int := (xv b).getD ([], 99)
theorem getD_eq (b : List UInt8) : xv b = some (getD b) := by
 obtain ⟨r, e, _⟩ := vaT b
 unfold getD; rw [e]; rfl
theorem getD_ok {b : List UInt8} (h : (getD b).2 = 0) : b = Zv (getD b).1 ∧ b.length ≤ 4096 ∧ ∀ x ∈ (getD b).1, Yu x := by
 obtain ⟨r, e, i, _⟩ := vaT b;rw [getD_eq] at e;obtain rfl := Option.some.inj e;exact i h
theorem rawsB_len2 : ∀ l : List GRaw, 2 * l.length ≤ (Zv l).length
 | [] => uk _
 | r :: l => by
  rw [vaD, qi, qj]
  have := rawsB_len2 l; have := rawB_pos r; omega
def decM (s : GSchema) : Nat → GMessage → List UInt8 → GTree × Int
 | 0, _, _ => (Yt, 10)
 | d + 1, m, b => if (getD b).2 = 0 then XT m (oneD (decM s d) s) (getD b).1 [] [] else (Yt, (getD b).2)
theorem YR (s : GSchema) : ∀ (d k : Nat) (m : GMessage) (b : List UInt8) (deep : Int), d ≤ 10 → deep = 11 - d → 2 * d + 1 ≤ k → zz k s m b deep = some (decM s d m b)
 | d, 0, m, b, deep, _, _, h => by omega
 | 0, k + 1, m, b, deep, _, h, _ => by
  rw [zz, zz.body, if_pos (by omega)]; rfl
 | d + 1, k + 1, m, b, deep, h10, hd, hk => by
  rw [zz, zz.body, if_neg (by omega), getD_eq, qg, decM]
  by_cases h0 : (getD b).2 = 0
  · rw [if_pos h0, if_pos h0];obtain ⟨hb, hl, hok⟩ := getD_ok h0
    have hlen : (getD b).1.length < 100000 := by
     have := rawsB_len2 (getD b).1
     rw [← hb] at this; omega
    refine fldD_eq ?_ ?_ List.Pairwise.nil (fun _ h => by cases h) (by rw [ql]; omega) (by rw [ql]; omega)
    · intro r hr
      have := ZK (hok r hr).1;exact ⟨this.1, this.2.1⟩
    intro r hr y
    obtain ⟨k', rfl⟩ : ∃ k', k = k' + 1 := ⟨k - 1, by omega⟩
    rw [zP];have hc := (ZK (hok r hr).1).2.2
    have hbl : r.fB.length ≤ 4096 := by
     rcases hc with ⟨_, hc⟩ | ⟨_, _, hc⟩
     · rw [hc]; decide
     exact hc
    refine oneD_eq (by rcases hc with hc | hc; exact Or.inl hc.1; exact Or.inr hc.1) hbl (by omega) (by omega) ?_;exact YR s d k' _ _ _ (by omega) (by omega) (by omega)
  rw [if_neg h0, if_neg h0]; rfl
theorem decode_eq {s : GSchema} {name b : List UInt8} (hc : zm s = some 0) (hm : (zC s name).2 = true) : xX s name b = some (decM s 10 (va9 s name) b) := by
 rw [xX, hc, qg, if_pos rfl, bnd, hm, if_neg (by decide), YR s 10 rounds _ b 1 (qu _) rfl (by have := yH; omega), qg]; rfl
end
section
set_option maxRecDepth 4000
open AM
def maxD (f : GTree → Nat) : List GTree → Nat → Nat
 | [], d => d
 | x :: l, d => maxD f l (max d (f x))
theorem maxD_ge {f : GTree → Nat} : ∀ (l : List GTree) (d : Nat), d ≤ maxD f l d
 | [], d => qu _
 | x :: l, d => ur (Nat.le_max_left _ _) (maxD_ge l _)
theorem maxD_mem {f : GTree → Nat} {x : GTree} : ∀ {l : List GTree} {d : Nat}, x ∈ l → f x ≤ maxD f l d
 | y :: l, d, h => by
  rw [maxD]
  rcases qK.1 h with rfl | h
  · exact ur (Nat.le_max_right _ _) (maxD_ge l _)
  exact maxD_mem h
theorem vbU {f : GTree → Nat} {n : Nat} : ∀ {l : List GTree} {d : Nat}, d ≤ n → (∀ x ∈ l, f x ≤ n) → maxD f l d ≤ n
 | [], d, h, _ => h
 | x :: l, d, h, hl => vbU (l := l) (Nat.max_le.2 ⟨h, hl x (qp ..)⟩) fun y hy => hl y (qr _ hy)
theorem maxD_app (f : GTree → Nat) : ∀ (l m : List GTree) (d : Nat), maxD f (l ++ m) d = maxD f m (maxD f l d)
 | [], _, _ => rfl
 | x :: l, m, d => maxD_app f l m _
def kids (t : GTree) : List GTree := t.fEntries.flatMap GEntry.fTrees
def Xi : Nat → GTree → Nat
 | 0, _ => 0
 | m + 1, t => if t.fKind = 3 then maxD (Xi m) (kids t) 0 + 1 else 0
theorem depT_le : ∀ (m : Nat) (t : GTree), Xi m t ≤ m
 | 0, _ => qu _
 | m + 1, t => by
  rw [Xi]; split
  · exact Nat.succ_le_succ (vbU (uk _) fun x _ => depT_le m x)
  exact uk _
theorem deep_l20 {self : GTree → Int → Option Int} {m : Nat} (hm : m < 1000) (hs : ∀ x, self x (m : Int) = some ((Xi m x : Nat) : Int)) {x7 : Int} {rec10 : Int → Int → Option Int} : ∀ (l : List GTree) (i : Int) (d : Nat),
 zY.l20 self ((m + 1 : Nat) : Int) x7 rec10 l i (d : Int) = rec10 (x7 + 1) ((maxD (Xi m) l d : Nat) : Int)
 | [], i, d => rfl
 | x :: l, i, d => by
  rw [zY.l20, show IntKind.i64.wrap (((m + 1 : Nat) : Int) - 1) = (m : Int) by rw [yx (by omega) (by omega)]; omega, hs, qg, maxD]
  have e : (if (d : Int) < ((Xi m x : Nat) : Int) then ((Xi m x : Nat) : Int) else (d : Int)) = ((max d (Xi m x) : Nat) : Int) := by split <;> omega
  rw [e]; exact deep_l20 hm hs l _ _
theorem deep_l10 {self : GTree → Int → Option Int} {m : Nat} (hm : m < 1000) (hs : ∀ x, self x (m : Int) = some ((Xi m x : Nat) : Int)) : ∀ (l : List GEntry) (i : Int) (d : Nat), d ≤ 1000 →
 zY.l10 self ((m + 1 : Nat) : Int) l i (d : Int) = some ((maxD (Xi m) (l.flatMap GEntry.fTrees) d + 1 : Nat) : Int)
 | [], i, d, hd => by
  rw [zY.l10, yx (by omega) (by omega), ui, maxD]; rfl
 | e :: l, i, d, hd => by
  rw [zY.l10, deep_l20 hm hs, deep_l10 hm hs l _ _ (vbU hd fun x _ => ur (depT_le m x) (by omega)), qT, maxD_app]
theorem deep_eq : ∀ (m k : Nat) (t : GTree), m < 1000 → m < k → zY k t (m : Int) = some ((Xi m t : Nat) : Int)
 | m, 0, t, _, h => by omega
 | 0, k + 1, t, _, _ => by
  rw [zY, zY.body, if_pos (by simp)]; rfl
 | m + 1, k + 1, t, hm, hk => by
  rw [zY, zY.body, Xi]
  by_cases h3 : t.fKind = 3
  · rw [if_neg (by simp only [h3, decide_true, qL, uF, decide_eq_true_eq]; omega), if_pos h3];exact deep_l10 (by omega) (fun x => deep_eq m k x (by omega) (by omega)) t.fEntries 0 0 (by omega)
  rw [if_pos (by simp [h3]), if_neg h3]; rfl
theorem Depth_eq (t : GTree) : wC t = some ((Xi 101 t : Nat) : Int) := by
 rw [wC, show (101 : Int) = ((101 : Nat) : Int) from rfl, deep_eq 101 rounds t (by omega) (by have := yH; omega)]; rfl
def risB : List GRaw → Bool
 | a :: b :: l => decide (a.fTag ≤ b.fTag) && risB (b :: l)
 | _ => true
theorem risB_iff : ∀ {l : List GRaw}, risB l = true ↔ l.Pairwise TagLe
 | [] => by simp [risB]
 | [a] => by simp [risB]
 | a :: b :: l => by
  rw [risB, qm, decide_eq_true_eq, risB_iff, um (a := a)]
  constructor
  · rintro ⟨h1, h2⟩;refine ⟨?_, h2⟩
    intro c hc
    rcases qK.1 hc with rfl | hc
    · exact h1
    have := (um.1 h2).1 c hc; unfold TagLe at *; omega
  rintro ⟨h1, h2⟩;exact ⟨h1 b (qp ..), h2⟩
theorem rising_l {L : List GRaw} (hL : L.length < 4611686018427387904) : ∀ (k : Nat) (A : List GRaw) (a : GRaw) (B : List GRaw), L = A ++ a :: B → B.length < k → yZ.l4 L k ((A.length + 1 : Nat) : Int) = some (risB (a :: B))
 | 0, _, _, _, _, h => by omega
 | k + 1, A, a, [], h, _ => by
  rw [yZ.l4, if_neg (by rw [h, qi, qF]; omega)]; rfl
 | k + 1, A, a, b :: B, h, hk => by
  have hl : L.length = A.length + (B.length + 2) := by rw [h, qi, qj, qj]
  have e1 : Zb L ((A.length + 1 : Nat) : Int) = some b := by
   rw [h, show A ++ a :: b :: B = (A ++ [a]) ++ b :: B by rw [qq]; rfl];exact Yj (by rw [qi, qF])
  have e2 : IntKind.i64.wrap (((A.length + 1 : Nat) : Int) - 1) = (A.length : Int) := by rw [yx (by omega) (by omega)]; omega
  have e3 : Zb L (A.length : Int) = some a := by rw [h]; exact Yj rfl
  have e4 : IntKind.i64.wrap (((A.length + 1 : Nat) : Int) + 1) = (((A ++ [a]).length + 1 : Nat) : Int) := by rw [yx (by omega) (by omega), qi, qF]; omega
  rw [yZ.l4, if_pos (by omega), e1, qg, e2, e3, qg, risB]
  by_cases hlt : b.fTag < a.fTag
  · rw [if_pos hlt, decide_eq_false (by omega)]; rfl
  rw [if_neg hlt, e4, rising_l hL k (A ++ [a]) b B (by rw [h, qq]; rfl) (by simpa using hk), decide_eq_true (by omega), uq]
theorem rising_eq {l : List GRaw} (h : l.length < 4611686018427387904) : yZ l = some (risB l) := by
 cases l with
 | nil => rfl
 | cons a l => exact rising_l h rounds [] a l rfl (by have := yH; rw [qj] at h; omega)
def restB (t : GTree) : Bool := t.fRest.all (fun r => ym r && !(t.fEntries.any fun e => decide (e.fTag = r.fTag))) && risB t.fRest
theorem rest_l16 {x2 : Int} {rec4 : Int → Option Bool} {y : GRaw} : ∀ (l : List GEntry) (i : Int), yG.l16 x2 rec4 y l i = if (l.any fun e => decide (e.fTag = y.fTag)) = true then some false else rec4 (x2 + 1)
 | [], i => by rw [yG.l16]; rfl
 | e :: l, i => by
  rw [yG.l16, List.any_cons]
  by_cases h : e.fTag = y.fTag
  · rw [if_pos h, decide_eq_true h, uT, if_pos rfl]
  rw [if_neg h, decide_eq_false h, uF, rest_l16]
theorem rest_l4 {t : GTree} (hr : t.fRest.length < 4611686018427387904) : ∀ (l : List GRaw) (i : Int), yG.l4 t l i = some (l.all (fun r => ym r && !(t.fEntries.any fun e => decide (e.fTag = r.fTag))) && risB t.fRest)
 | [], i => by rw [yG.l4, rising_eq hr]; rfl
 | r :: l, i => by
  rw [yG.l4, bnd, qW]
  cases hc : ym r with
  | false => rfl
  | true =>
   rw [if_neg (by decide), rest_l16]
   cases ha : t.fEntries.any fun e => decide (e.fTag = r.fTag) with
   | true => rfl
   | false => rw [if_neg (by decide), rest_l4 hr l]; rfl
theorem rest_eq {t : GTree} (hr : t.fRest.length < 4611686018427387904) : yG t = some (restB t) := rest_l4 hr _ _
def entB (f : GTree → Bool) : Int → List GEntry → Bool
 | _, [] => true
 | last, e :: l => decide (last < e.fTag ∧ e.fTag ≤ 500 ∧ 1 ≤ e.fTrees.length ∧ e.fTrees.length ≤ 64) && (e.fTrees.all fun x => decide (x.fKind = (e.fTrees.headD Yt).fKind) && f x) && entB f e.fTag l
def leafB (t : GTree) : Bool :=
 if t.fKind = 1 then decide (t.fS = []) && decide ((qb t.fEntries : Int) = 0) && decide ((qb t.fRest : Int) = 0)
 else if t.fKind = 2 then decide (t.fN = 0) && decide ((qb t.fEntries : Int) = 0) && decide ((qb t.fRest : Int) = 0)
 else false
def wo : Nat → GTree → Bool
 | 0, t => leafB t
 | d + 1, t => if t.fKind = 3 then decide (t.fN = 0) && decide (t.fS = []) && entB (wo d) 0 t.fEntries && restB t else leafB t
def ownS (t : GTree) : Prop := In64 t.fN ∧ t.fRest.length ≤ 900000 ∧ ∀ r ∈ t.fRest, In64 r.fN
def szT : Nat → GTree → Prop
 | 0, t => ownS t
 | d + 1, t => ownS t ∧ ∀ x ∈ kids t, szT d x
theorem vb5 {self : GTree → Option Bool} {f : GTree → Bool} {x3 : Int} {rec6 : Int → Int → Option Bool} {y : GEntry} (hy : 1 ≤ y.fTrees.length) : ∀ (l : List GTree) (i : Int), (∀ x ∈ l, self x = some (f x)) →
 zx.l18 self x3 rec6 y l i = if (l.all fun x => decide (x.fKind = (y.fTrees.headD Yt).fKind) && f x) = true then rec6 (x3 + 1) y.fTag else some false
 | [], i, _ => by rw [zx.l18]; rfl
 | x :: l, i, h => by
  have e1 : Zb y.fTrees 0 = some (y.fTrees.headD Yt) := by
   cases ht : y.fTrees with
   | nil => rw [ht] at hy; exact absurd hy (by decide)
   | cons a l => rfl
  rw [zx.l18, e1, qg, qW]
  by_cases hk : x.fKind = (y.fTrees.headD Yt).fKind
  · rw [if_pos hk, h x (qp ..), qg, decide_eq_true hk, uq]
    cases f x with
    | false => rfl
    | true =>
     rw [zx.j25, if_neg (by decide), vb5 hy l _ fun z hz => h z (qr _ hz), uq]
  rw [if_neg hk, decide_eq_false hk]; rfl
theorem entries_l6 {self : GTree → Option Bool} {f : GTree → Bool} : ∀ (l : List GEntry) (i last : Int), (∀ e ∈ l, ∀ x ∈ e.fTrees, self x = some (f x)) → zx.l6 self l i last = some (entB f last l)
 | [], i, last, _ => rfl
 | e :: l, i, last, h => by
  rw [zx.l6, entB]
  by_cases hc : last < e.fTag ∧ e.fTag ≤ 500 ∧ 1 ≤ e.fTrees.length ∧ e.fTrees.length ≤ 64
  · rw [if_neg (by simp only [qM, decide_eq_true_eq]; omega), vb5 hc.2.2.1 e.fTrees 0 (h e (qp ..)), decide_eq_true hc, uq]
    cases ha : e.fTrees.all fun x => decide (x.fKind = (e.fTrees.headD Yt).fKind) && f x with
    | false => rfl
    | true => rw [if_pos rfl, entries_l6 l _ _ fun y hy => h y (qr _ hy), uq]
  rw [if_pos (by simp only [qM, decide_eq_true_eq]; omega), decide_eq_false hc]; rfl
theorem ZR {t : GTree} {e : GEntry} {x : GTree} (he : e ∈ t.fEntries) (hx : x ∈ e.fTrees) : x ∈ kids t := List.mem_flatMap.2 ⟨e, he, hx⟩
theorem right_eq : ∀ (d m k : Nat) (t : GTree), d < m → Xi m t ≤ d → 2 * d < k → szT d t → y0 k t = some (wo d t)
 | d, m, 0, t, _, _, h, _ => by omega
 | 0, m + 1, k + 1, t, _, hd, _, hz => by
  have h3 : ¬ t.fKind = 3 := by
   intro h; rw [Xi, if_pos h] at hd; omega
  rw [y0, y0.body, wo, leafB, if_neg h3]
  split <;> first | rfl | (split <;> rfl)
 | d + 1, m + 1, k + 1, t, hm, hd, hk, hz => by
  rw [y0, y0.body, wo]
  by_cases h3 : t.fKind = 3
  · have hd' : maxD (Xi m) (kids t) 0 ≤ d := by rw [Xi, if_pos h3] at hd; omega
    obtain ⟨k', rfl⟩ : ∃ k', k = k' + 1 := ⟨k - 1, by omega⟩
    have he : zx (k' + 1) t = some (entB (wo d) 0 t.fEntries) := by
     rw [zx, zx.body]
     exact entries_l6 t.fEntries 0 0 fun e he x hx => right_eq d m k' x (by omega) (ur (maxD_mem (ZR he hx)) hd') (by omega) (hz.2 x (ZR he hx))
    rw [if_neg (by omega), if_neg (by omega), if_pos h3, if_pos h3, he, rest_eq (by have := hz.1.2.1; omega)]
    cases decide (t.fN = 0) && decide (t.fS = []) with
    | false => rfl
    | true => cases entB (wo d) 0 t.fEntries <;> rfl
  rw [if_neg h3, if_neg h3, leafB]
  split <;> first | rfl | (split <;> rfl)
def ZU (t : GTree) : Bool := decide (Xi 101 t ≤ 10) && wo 10 t
theorem check_eq {t : GTree} (hz : szT 10 t) : wD t = some (ZU t) := by
 rw [wD, Depth_eq, qg, ZU]
 by_cases h : Xi 101 t ≤ 10
 · rw [if_pos (by omega), right_eq 10 101 rounds t (by omega) h (by have := yH; omega) hz, decide_eq_true h, uq]; rfl
 rw [if_neg (by omega), decide_eq_false h]; rfl
end
section
set_option maxRecDepth 4000
open AM
theorem in0 : In64 0 := ⟨by decide, by decide⟩
def rawT (enc : GTree → Option (List UInt8)) (tag : Int) (x : GTree) : Option GRaw :=
 if x.fKind = 1 then some ⟨tag, 0, x.fN, []⟩
 else if x.fKind = 2 then (if 4096 < x.fS.length then none else some ⟨tag, 1, 0, x.fS⟩)
 else (enc x).bind fun b => some ⟨tag, 1, 0, b⟩
def rawL (enc : GTree → Option (List UInt8)) (tag : Int) : List GTree → Option (List GRaw)
 | [] => some []
 | x :: l => (rawT enc tag x).bind fun r => (rawL enc tag l).bind fun m => some (r :: m)
def rawE (enc : GTree → Option (List UInt8)) : List GEntry → Option (List GRaw)
 | [] => some []
 | e :: l => (rawL enc e.fTag e.fTrees).bind fun a => (rawE enc l).bind fun m => some (a ++ m)
def putB (l : List GRaw) : Option (List UInt8) := if 4096 < (Zv l).length then none else some (Zv l)
def Xl : Nat → GTree → Option (List UInt8)
 | 0, _ => none
 | d + 1, t => (rawE (Xl d) t.fEntries).bind fun L => putB (srt (t.fRest ++ L))
def XN : Nat → GTree → GValueValue
 | 0, t => if t.fKind = 1 then .num t.fN else if t.fKind = 2 then .str t.fS else .node [] t.fRest
 | d + 1, t => if t.fKind = 1 then .num t.fN else if t.fKind = 2 then .str t.fS else .node (t.fEntries.map fun e => ⟨e.fTag, e.fTrees.map (XN d)⟩) t.fRest
theorem made_l62 {self : GTree → Option GValueValue} {f : GTree → GValueValue} {t : GTree} {r12 : List GRaw} {y : GEntry} : ∀ (l : List GTree) (i : Int) (acc : List GValueValue), (∀ x ∈ l, self x = some (f x)) → acc.length + l.length ≤ 64 →
 zL.l62 self t r12 y l i acc = zL.l20 self t r12 rounds [⟨y.fTag, acc ++ l.map f⟩] 1
 | [], i, acc, _, _ => by
  rw [zL.l62, qw, qy, yx (by decide) (by decide)]; rfl
 | x :: l, i, acc, h, hl => by
  rw [qj] at hl
  rw [zL.l62, h x (qp ..), qg, xF (by omega), qg, made_l62 l _ _ (fun z hz => h z (qr _ hz)) (by rw [qi, qF]; omega), qq]; rfl
theorem made_l35 {self : GTree → Option GValueValue} {f : GTree → GValueValue} {l14 : List GValueEntry} {x16 : Int} {rec20 : List GValueEntry → Int → Option GValueValue} {y : GEntry} (hl14 : l14.length ≤ 1000) : ∀ (l : List GTree) (i : Int) (acc : List GValueValue), (∀ x ∈ l, self x = some (f x)) → acc.length + l.length ≤ 64 →
 zL.l35 self l14 x16 rec20 y l i acc = rec20 (l14 ++ [⟨y.fTag, acc ++ l.map f⟩]) (IntKind.i64.wrap (x16 + 1))
 | [], i, acc, _, _ => by
  rw [zL.l35, qw, qy, xF (by omega), qg]
 | x :: l, i, acc, h, hl => by
  rw [qj] at hl
  rw [zL.l35, h x (qp ..), qg, xF (by omega), qg, made_l35 hl14 l _ _ (fun z hz => h z (qr _ hz)) (by rw [qi, qF]; omega), qq]; rfl
def entV (f : GTree → GValueValue) (e : GEntry) : GValueEntry := ⟨e.fTag, e.fTrees.map f⟩
theorem made_l20 {self : GTree → Option GValueValue} {f : GTree → GValueValue} {t : GTree} {r12 : List GRaw} (hn : t.fEntries.length ≤ 1000) (hs : ∀ e ∈ t.fEntries, e.fTrees.length ≤ 64 ∧ ∀ x ∈ e.fTrees, self x = some (f x)) : ∀ (k : Nat) (A B : List GEntry), t.fEntries = A ++ B → B.length < k →
 zL.l20 self t r12 k (A.map (entV f)) (A.length : Int) = some (.node (t.fEntries.map (entV f)) r12)
 | 0, A, B, _, h => by omega
 | k + 1, A, [], h, _ => by
  rw [qy] at h;rw [zL.l20, if_neg (by rw [h]; omega), h]
 | k + 1, A, e :: B, h, hk => by
  rw [qj] at hk
  have hl : t.fEntries.length = A.length + (B.length + 1) := by rw [h, qi, qj]
  have he := hs e (by rw [h]; exact uo _ (qp ..))
  have ei : Zb t.fEntries (A.length : Int) = some e := by rw [h]; exact Yj rfl
  rw [zL.l20, if_pos (by omega), ei, qg, made_l35 (f := f) (by rw [q7]; omega) e.fTrees 0 [] he.2 (by rw [ql]; omega), yx (by omega) (by omega)];have := made_l20 (self := self) (f := f) (r12 := r12) hn hs k (A ++ [e]) B (by rw [h, qq]; rfl) (by omega);rw [qC, qi, qF] at this;rw [show (A.length : Int) + 1 = ((A.length + 1 : Nat) : Int) by omega];exact this
theorem Yd {f : GTree → Bool} : ∀ {l : List GEntry} {last : Int}, entB f last l = true → ∀ e ∈ l, last < e.fTag ∧ e.fTag ≤ 500 ∧ 1 ≤ e.fTrees.length ∧ e.fTrees.length ≤ 64 ∧ (∀ x ∈ e.fTrees, x.fKind = (e.fTrees.headD Yt).fKind ∧ f x = true)
 | [], _, _, e, he => by cases he
 | a :: l, last, h, e, he => by
  rw [entB, qm, qm, decide_eq_true_eq] at h
  rcases qK.1 he with rfl | he
  · refine ⟨h.1.1.1, h.1.1.2.1, h.1.1.2.2.1, h.1.1.2.2.2, fun x hx => ?_⟩;have := ub.1 h.1.2 x hx;rw [qm, decide_eq_true_eq] at this;exact this
  obtain ⟨h1, h2⟩ := Yd h.2 e he;exact ⟨by omega, h2⟩
theorem Xa {f : GTree → Bool} : ∀ {l : List GEntry} {last : Int}, entB f last l = true → l.Pairwise YY
 | [], _, _ => List.Pairwise.nil
 | a :: l, last, h => by
  rw [entB, qm, qm] at h;rw [um];exact ⟨fun e he => (Yd h.2 e he).1, Xa h.2⟩
theorem sorted_len {n : Nat} : ∀ {l : List GEntry} {lo : Int}, l.Pairwise YY → (∀ e ∈ l, lo < e.fTag ∧ e.fTag ≤ lo + n) → l.length ≤ n
 | [], _, _, _ => uk _
 | a :: l, lo, h, hl => by
  rw [um] at h;have ha := hl a (qp ..)
  cases n with
  | zero => omega
  | succ n =>
   rw [qj];refine Nat.succ_le_succ (sorted_len (n := n) (lo := lo + 1) h.2 fun e he => ?_);have h1 := h.1 e he;have h2 := hl e (qr _ he)
   unfold YY at h1; omega
theorem XI {d : Nat} {t : GTree} (h : wo (d + 1) t = true) (h3 : t.fKind = 3) : t.fEntries.length ≤ 500 ∧ entB (wo d) 0 t.fEntries = true ∧ restB t = true ∧ t.fN = 0 ∧ t.fS = [] := by
 rw [wo, if_pos h3] at h;simp only [qm, decide_eq_true_eq] at h;refine ⟨?_, h.1.2, h.2, h.1.1.1, h.1.1.2⟩
 exact sorted_len (n := 500) (lo := 0) (Xa h.1.2) fun e he => by
  have := Yd h.1.2 e he; omega
theorem Xw {t : GTree} (h : leafB t = true) : t.fKind = 1 ∨ t.fKind = 2 := by
 unfold leafB at h
 split at h
 · exact Or.inl ‹_›
 split at h
 · exact Or.inr ‹_›
 cases h
theorem XH {d : Nat} {t : GTree} (h : wo d t = true) : t.fKind = 1 ∨ t.fKind = 2 ∨ t.fKind = 3 := by
 cases d with
 | zero => rcases Xw h with h | h; exact Or.inl h; exact Or.inr (Or.inl h)
 | succ d =>
  rw [wo] at h
  split at h
  · exact Or.inr (Or.inr ‹_›)
  rcases Xw h with h | h; exact Or.inl h; exact Or.inr (Or.inl h)
theorem made_eq : ∀ (d k : Nat) (t : GTree), d < k → wo d t = true → szT d t → zL k t = some (XN d t)
 | d, 0, t, h, _, _ => by omega
 | 0, k + 1, t, _, hr, _ => by
  rw [zL, zL.body, XN]
  rcases Xw hr with h | h
  · rw [if_pos h, if_pos h]; rfl
  rw [if_neg (by omega), if_pos h, if_neg (by omega), if_pos h]; rfl
 | d + 1, k + 1, t, hk, hr, hz => by
  rw [zL, zL.body, XN]
  by_cases h1 : t.fKind = 1
  · rw [if_pos h1, if_pos h1]; rfl
  by_cases h2 : t.fKind = 2
  · rw [if_neg h1, if_pos h2, if_neg h1, if_pos h2]; rfl
  have h3 : t.fKind = 3 := by rcases XH hr with h | h | h <;> omega
  obtain ⟨hl, he, _, _, _⟩ := XI hr h3
  have hs : ∀ e ∈ t.fEntries, e.fTrees.length ≤ 64 ∧ ∀ x ∈ e.fTrees, zL k x = some (XN d x) := fun e hm => by
   have := Yd he e hm;exact ⟨this.2.2.2.1, fun x hx => made_eq d k x (by omega) (this.2.2.2.2 x hx).2 (hz.2 x (ZR hm hx))⟩
  rw [if_neg h1, if_neg h2, if_neg h1, if_neg h2, yQ, xF (by have := hz.1.2.1; omega), qg, qg]
  cases hE : t.fEntries with
  | nil => rfl
  | cons a E =>
   rw [if_pos (by rw [qj]; omega)];have ha := hs a (by rw [hE]; exact qp ..);rw [idx_t (u4 0) (show (a :: E)[qH 0]? = some a from rfl), qg, made_l62 (f := XN d) a.fTrees 0 [] ha.2 (by rw [ql]; omega)];have := made_l20 (self := zL k) (f := XN d) (r12 := t.fRest) (by omega) hs rounds [a] E (by rw [hE]; rfl) (by have := yH; rw [hE, qj] at hl; omega);rw [hE] at this;exact this
theorem of_eq {t : GTree} (hz : szT 10 t) : ZQ t = some (if ZU t = true then (XN 10 t, true) else (.nil, false)) := by
 rw [ZQ, check_eq hz, qg]
 by_cases h : ZU t = true
 · rw [h]
   have hr : wo 10 t = true := by unfold ZU at h; rw [qm] at h; exact h.2
   rw [if_neg (by decide), made_eq 10 rounds t (by have := yH; omega) hr hz]; rfl
 rw [if_pos (by simpa using h), if_neg h]
theorem tags_l8 : ∀ (l : List GValueEntry) (i : Int) (acc : List Int), acc.length + l.length ≤ 1000 → z7.l8 l i acc = some (acc ++ l.map GValueEntry.ftag)
 | [], i, acc, _ => by rw [z7.l8, qw, qy]
 | e :: l, i, acc, h => by
  rw [qj] at h
  rw [z7.l8, xF (by omega), qg, tags_l8 l _ _ (by rw [qi, qF]; omega), qq]; rfl
theorem get_l4 {f : GTree → GValueValue} {e : GEntry} {B : List GEntry} (he : e.fTrees.length ≤ 64) : ∀ (A : List GEntry) (i : Int), (∀ a ∈ A, a.fTag ≠ e.fTag) → yw.l4 e.fTag ((A ++ e :: B).map (entV f)) i = some (e.fTrees.map f)
 | [], i, _ => by
  rw [qA, qD, yw.l4, if_pos (show (entV f e).ftag = e.fTag from rfl), show (entV f e).fl = e.fTrees.map f from rfl, ww, xF (by rw [q7]; omega)]; rfl
 | a :: A, i, h => by
  rw [qE, qD, yw.l4, if_neg (show ¬ (entV f a).ftag = e.fTag from h a (qp ..))]
  exact get_l4 he A _ fun b hb => h b (qr _ hb)
theorem rawL_len {enc : GTree → Option (List UInt8)} {tag : Int} : ∀ {l : List GTree} {m : List GRaw}, rawL enc tag l = some m → m.length = l.length
 | [], m, h => by cases h; rfl
 | x :: l, m, h => by
  obtain ⟨r, _, h⟩ := bind_some h;obtain ⟨m', h1, h⟩ := bind_some h;cases h;rw [qj, qj, rawL_len h1]
def YI (o : Option (List GRaw)) (k : List GRaw → Option (List GRaw × Int)) : Option (List GRaw × Int) :=
 match o with
 | some m => k m
 | none => some ([], 4)
theorem raws_l24 {selfR : Int → GValueValue → Option (GRaw × Int)} {f : GTree → GValueValue} {enc : GTree → Option (List UInt8)} {x6 : Int} {rec10 : Int → List GRaw → Option (List GRaw × Int)} {tag : Int} : ∀ (l : List GTree) (i : Int) (acc : List GRaw), (∀ x ∈ l, selfR tag (f x) = some (match rawT enc tag x with | some r => (r, 0) | none => (⟨0, 0, 0, []⟩, 4))) → acc.length + l.length < 3518437208882 →
 zQ.l24 selfR x6 rec10 tag (l.map f) i acc = YI (rawL enc tag l) fun m => rec10 (x6 + 1) (acc ++ m)
 | [], i, acc, _, _ => by rw [qw, zQ.l24, rawL, YI, qy]
 | x :: l, i, acc, h, hl => by
  rw [qj] at hl;rw [qD, zQ.l24, h x (qp ..), qg, rawL]
  cases hx : rawT enc tag x with
  | none => rfl
  | some r =>
   dsimp only
   rw [if_pos rfl, xF (by omega), qg, raws_l24 l _ _ (fun z hz => h z (qr _ hz)) (by rw [qi, qF]; omega), qg]
   cases rawL enc tag l with
   | none => rfl
   | some m => simp only [YI, qg, qq, qE, qA]
theorem raws_l10 {selfR : Int → GValueValue → Option (GRaw × Int)} {f : GTree → GValueValue} {enc : GTree → Option (List UInt8)} {E : List GEntry} {rest : List GRaw} (hs : E.Pairwise YY) (ht : ∀ e ∈ E, e.fTrees.length ≤ 64 ∧ ∀ x ∈ e.fTrees, selfR e.fTag (f x) = some (match rawT enc e.fTag x with | some r => (r, 0) | none => (⟨0, 0, 0, []⟩, 4))) (hn : E.length ≤ 500) :
 ∀ (B A : List GEntry) (i : Int) (acc : List GRaw), E = A ++ B → acc.length ≤ 900000 + 64 * A.length → zQ.l10 selfR ⟨E.map (entV f), rest⟩ (B.map GEntry.fTag) i acc = YI (rawE enc B) fun m => some (srt (acc ++ m), 0)
 | [], A, i, acc, h, ha => by
  have hl : E.length = A.length := by rw [h, qy]
  rw [qw, zQ.l10, sorted_eq (by omega), rawE, YI, qy]; rfl
 | e :: B, A, i, acc, h, ha => by
  have hl : E.length = A.length + (B.length + 1) := by rw [h, qi, qj]
  have he := ht e (by rw [h]; exact uo _ (qp ..))
  have hA : ∀ a ∈ A, a.fTag ≠ e.fTag := fun a hm => by
   rw [h] at hs;have := (List.pairwise_append.1 hs).2.2 a hm e (qp ..)
   unfold YY at this; omega
  have hg : yw ⟨E.map (entV f), rest⟩ e.fTag = some (e.fTrees.map f) := by
   rw [yw, h]; exact get_l4 he.1 A 0 hA
  rw [qD, zQ.l10, hg, qg, raws_l24 (enc := enc) e.fTrees 0 acc he.2 (by omega), rawE]
  cases hL : rawL enc e.fTag e.fTrees with
  | none => rfl
  | some m =>
   have hm := rawL_len hL;rw [YI, raws_l10 hs ht hn B (A ++ [e]) _ _ (by rw [h, qq]; rfl) (by rw [qi, qi, qF]; omega), qg]
   cases rawE enc B with
   | none => rfl
   | some m' => simp only [YI, qg, qq]
end
section
set_option maxRecDepth 4000
open AM
theorem putB_some {l : List GRaw} {b : List UInt8} (h : putB l = some b) : b = Zv l ∧ b.length ≤ 4096 := by
 unfold putB at h
 split at h
 · cases h
 cases h; exact ⟨rfl, by omega⟩
theorem vb6 {d : Nat} {t : GTree} {b : List UInt8} (h : Xl d t = some b) : b.length ≤ 4096 := by
 cases d with
 | zero => cases h
 | succ d =>
  rw [Xl] at h;obtain ⟨L, _, h⟩ := bind_some h;exact (putB_some h).2
theorem rawT_ok {d : Nat} {tag : Int} {x : GTree} {r : GRaw} (h1 : 1 ≤ tag) (h2 : tag ≤ 500) (hx : In64 x.fN) (h : rawT (Xl d) tag x = some r) : Yu r ∧ r.fTag = tag := by
 unfold rawT at h
 split at h
 · cases h; exact ⟨⟨check_num h1 h2, hx⟩, rfl⟩
 split at h
 · split at h
   · cases h
   cases h; exact ⟨⟨vaR h1 h2 (by omega), in0⟩, rfl⟩
 obtain ⟨b, hb, h⟩ := bind_some h
 cases h; exact ⟨⟨vaR h1 h2 (vb6 hb), in0⟩, rfl⟩
theorem rawL_ok {d : Nat} {tag : Int} (h1 : 1 ≤ tag) (h2 : tag ≤ 500) : ∀ {l : List GTree} {m : List GRaw}, (∀ x ∈ l, In64 x.fN) → rawL (Xl d) tag l = some m → ∀ r ∈ m, Yu r ∧ r.fTag = tag
 | [], m, _, h, r, hr => by cases h; cases hr
 | x :: l, m, hx, h, r, hr => by
  obtain ⟨a, ha, h⟩ := bind_some h;obtain ⟨m', hm, h⟩ := bind_some h;cases h
  rcases qK.1 hr with rfl | hr
  · exact rawT_ok h1 h2 (hx x (qp ..)) ha
  exact rawL_ok h1 h2 (fun z hz => hx z (qr _ hz)) hm r hr
theorem rawE_ok {d : Nat} : ∀ {l : List GEntry} {m : List GRaw}, (∀ e ∈ l, 1 ≤ e.fTag ∧ e.fTag ≤ 500 ∧ ∀ x ∈ e.fTrees, In64 x.fN) → rawE (Xl d) l = some m → ∀ r ∈ m, Yu r ∧ ∃ e ∈ l, r.fTag = e.fTag
 | [], m, _, h, r, hr => by cases h; cases hr
 | e :: l, m, hx, h, r, hr => by
  obtain ⟨a, ha, h⟩ := bind_some h;obtain ⟨m', hm, h⟩ := bind_some h;cases h;have he := hx e (qp ..)
  rcases uw.1 hr with hr | hr
  · have := rawL_ok he.1 he.2.1 he.2.2 ha r hr;exact ⟨this.1, e, qp .., this.2⟩
  obtain ⟨h1, e', h2, h3⟩ := rawE_ok (fun z hz => hx z (qr _ hz)) hm r hr;exact ⟨h1, e', qr _ h2, h3⟩
theorem szT_own {d : Nat} {t : GTree} (h : szT d t) : ownS t := by
 cases d with
 | zero => exact h
 | succ d => exact h.1
theorem restB_mem {t : GTree} (h : restB t = true) : (∀ r ∈ t.fRest, ym r = true ∧ ∀ e ∈ t.fEntries, e.fTag ≠ r.fTag) ∧ t.fRest.Pairwise TagLe := by
 unfold restB at h;rw [qm] at h;refine ⟨fun r hr => ?_, risB_iff.1 h.2⟩;have := ub.1 h.1 r hr;rw [qm, uE] at this;refine ⟨this.1, fun e he hc => ?_⟩;have h2 := List.any_eq_false.1 this.2 e he;exact h2 (decide_eq_true hc)
theorem raws_ok {d : Nat} {t : GTree} {L : List GRaw} (hr : wo (d + 1) t = true) (h3 : t.fKind = 3) (hz : szT (d + 1) t) (hL : rawE (Xl d) t.fEntries = some L) : ∀ r ∈ srt (t.fRest ++ L), Yu r := by
 obtain ⟨_, he, hb, _, _⟩ := XI hr h3
 intro r hm
 rw [srt_mem] at hm
 rcases uw.1 hm with hm | hm
 · exact ⟨((restB_mem hb).1 r hm).1, hz.1.2.2 r hm⟩
 exact (rawE_ok (fun e hm => by
  have := Yd he e hm
  exact ⟨by omega, this.2.1, fun x hx => (szT_own (hz.2 x (ZR hm hx))).1⟩) hL r hm).1
def vaa (o : Option (List UInt8)) : List UInt8 × Int :=
 match o with
 | some b => (b, 0)
 | none => ([], 4)
theorem XZ {l : List GRaw} (h : ∀ r ∈ l, Yu r) : yc l = some (vaa (putB l)) := by
 rw [putAll_eq fun r hr => (h r hr).2, if_pos (ub.2 fun r hr => (h r hr).1), putB]
 split
 · rfl
 rfl
theorem tags_eq {f : GTree → GValueValue} {E : List GEntry} {rest : List GRaw} (h : E.length ≤ 500) : z7 ⟨E.map (entV f), rest⟩ = some (E.map GEntry.fTag) := by
 rw [z7];have := tags_l8 (E.map (entV f)) 0 [] (by rw [ql, q7]; omega)
 rw [this, qA, List.map_map]; rfl
theorem raws_eq {selfB : GValueNode → Option (List UInt8 × Int)} {selfR : Int → GValueValue → Option (GRaw × Int)} {selfS : GValueNode → Option (List GRaw × Int)} {f : GTree → GValueValue} {enc : GTree → Option (List UInt8)} {E : List GEntry} {rest : List GRaw} (hs : E.Pairwise YY) (ht : ∀ e ∈ E, e.fTrees.length ≤ 64 ∧ ∀ x ∈ e.fTrees, selfR e.fTag (f x) = some (match rawT enc e.fTag x with | some r => (r, 0) | none => (⟨0, 0, 0, []⟩, 4))) (hn : E.length ≤ 500) (hr : rest.length ≤ 900000) :
 zQ.body selfB selfR selfS ⟨E.map (entV f), rest⟩ = YI (rawE enc E) fun m => some (srt (rest ++ m), 0) := by
 rw [zQ.body, tags_eq hn, wJ, yQ, xF (by dsimp only; omega), qg, qg, qg, qg];exact raws_l10 hs ht hn E [] 0 rest rfl (by rw [ql]; omega)
theorem bytes_eq : ∀ (d k : Nat) (t : GTree) (es : List GValueEntry) (rs : List GRaw), 3 * d ≤ k → wo d t = true → t.fKind = 3 → szT d t → XN d t = .node es rs → xh k ⟨es, rs⟩ = some (vaa (Xl d t))
 | 0, k, t, es, rs, _, hr, h3, _, _ => by
  rcases Xw hr with h | h <;> omega
 | d + 1, k, t, es, rs, hk, hr, h3, hz, hv => by
  obtain ⟨k', rfl⟩ : ∃ k', k = k' + 3 := ⟨k - 3, by omega⟩
  obtain ⟨hl, he, hb, _, _⟩ := XI hr h3;rw [XN, if_neg (by omega), if_neg (by omega)] at hv;cases hv
  have hs : ∀ e ∈ t.fEntries, e.fTrees.length ≤ 64 ∧ ∀ x ∈ e.fTrees, yK (k' + 1) e.fTag (XN d x) = some (match rawT (Xl d) e.fTag x with | some r => (r, 0) | none => (⟨0, 0, 0, []⟩, 4)) := by
   intro e hm
   have h1 := Yd he e hm;refine ⟨h1.2.2.2.1, fun x hx => ?_⟩;have hrx := (h1.2.2.2.2 x hx).2;have hzx := hz.2 x (ZR hm hx);rw [yK, yK.body, rawT]
   rcases XH hrx with h | h | h
   · have hv : XN d x = .num x.fN := by cases d <;> rw [XN, if_pos h]
     rw [hv, if_pos h]; rfl
   · have hv : XN d x = .str x.fS := by cases d <;> rw [XN, if_neg (by omega), if_pos h]
     rw [hv, if_neg (by omega), if_pos h, show wg (.str x.fS) = some (.str x.fS) from rfl, qg]
     dsimp only
     rw [yK.j3]
     by_cases hc : 4096 < x.fS.length
     · rw [if_pos hc, if_pos (by dsimp only; omega)]
     rw [if_neg hc, if_neg (by dsimp only; omega)]
   have h1' : ¬ x.fKind = 1 := by omega
   have h2' : ¬ x.fKind = 2 := by omega
   obtain ⟨es, rs, hv⟩ : ∃ es rs, XN d x = .node es rs := by cases d <;> exact ⟨_, _, by rw [XN, if_neg h1', if_neg h2']⟩
   rw [hv, if_neg h1', if_neg h2', show wg (.node es rs) = some (.node es rs) from rfl, qg]
   dsimp only
   rw [bytes_eq d k' x es rs (by omega) hrx h hzx hv, qg]
   cases hx' : Xl d x with
   | none => rfl
   | some b =>
    have hbl := vb6 hx'
    rw [vaa]; dsimp only
    rw [if_pos rfl, yK.j3, if_neg (by dsimp only; omega), qg]
  have hR : zQ (k' + 2) ⟨t.fEntries.map fun e => ⟨e.fTag, e.fTrees.map (XN d)⟩, t.fRest⟩ = YI (rawE (Xl d) t.fEntries) fun m => some (srt (t.fRest ++ m), 0) := by
   rw [zQ];exact raws_eq (f := XN d) (Xa he) hs hl hz.1.2.1
  rw [xh, xh.body, hR, Xl]
  cases hL : rawE (Xl d) t.fEntries with
  | none => rfl
  | some L =>
   rw [YI, qg]; dsimp only
   rw [if_pos rfl, XZ (raws_ok hr h3 hz hL), qg, qg]
theorem rawE_eq {d k : Nat} {t : GTree} (hk : 3 * d + 2 ≤ k) (hr : wo (d + 1) t = true) (h3 : t.fKind = 3) (hz : szT (d + 1) t) : zQ k ⟨t.fEntries.map (entV (XN d)), t.fRest⟩ = YI (rawE (Xl d) t.fEntries) fun m => some (srt (t.fRest ++ m), 0) := by
 obtain ⟨k', rfl⟩ : ∃ k', k = k' + 2 := ⟨k - 2, by omega⟩
 obtain ⟨hl, he, hb, _, _⟩ := XI hr h3;rw [zQ];refine raws_eq (f := XN d) (Xa he) ?_ hl hz.1.2.1
 intro e hm
 have h1 := Yd he e hm;refine ⟨h1.2.2.2.1, fun x hx => ?_⟩;have hrx := (h1.2.2.2.2 x hx).2;have hzx := hz.2 x (ZR hm hx);rw [yK, yK.body, rawT]
 rcases XH hrx with h | h | h
 · have hv : XN d x = .num x.fN := by cases d <;> rw [XN, if_pos h]
   rw [hv, if_pos h]; rfl
 · have hv : XN d x = .str x.fS := by cases d <;> rw [XN, if_neg (by omega), if_pos h]
   rw [hv, if_neg (by omega), if_pos h, show wg (.str x.fS) = some (.str x.fS) from rfl, qg]
   dsimp only
   rw [yK.j3]
   by_cases hc : 4096 < x.fS.length
   · rw [if_pos hc, if_pos (by dsimp only; omega)]
   rw [if_neg hc, if_neg (by dsimp only; omega)]
 have h1' : ¬ x.fKind = 1 := by omega
 have h2' : ¬ x.fKind = 2 := by omega
 obtain ⟨es, rs, hv⟩ : ∃ es rs, XN d x = .node es rs := by cases d <;> exact ⟨_, _, by rw [XN, if_neg h1', if_neg h2']⟩
 rw [hv, if_neg h1', if_neg h2', show wg (.node es rs) = some (.node es rs) from rfl, qg]
 dsimp only
 rw [bytes_eq d k' x es rs (by omega) hrx h hzx hv, qg]
 cases hx' : Xl d x with
 | none => rfl
 | some b =>
  have hbl := vb6 hx'
  rw [vaa]; dsimp only
  rw [if_pos rfl, yK.j3, if_neg (by dsimp only; omega), qg]
theorem X1 {t : GTree} (h : ZU t = true) : wo 10 t = true ∧ Xi 101 t ≤ 10 := by
 unfold ZU at h;rw [qm, decide_eq_true_eq] at h;exact ⟨h.2, h.1⟩
theorem Raws_eq {t : GTree} (hz : szT 10 t) : wI t = some (if ZU t = true ∧ t.fKind = 3 then (match rawE (Xl 9) t.fEntries with | some L => (srt (t.fRest ++ L), (0 : Int)) | none => ([], 4)) else ([], 1)) := by
 rw [wI, of_eq hz, qg]
 by_cases hc : ZU t = true
 · rw [if_pos hc]
   by_cases h3 : t.fKind = 3
   · rw [if_neg (by rw [decide_eq_true h3]; exact uK), if_pos ⟨hc, h3⟩]
     have hv : XN 10 t = .node (t.fEntries.map (entV (XN 9))) t.fRest := by rw [XN, if_neg (by omega), if_neg (by omega)]; rfl
     rw [hv, show yE (.node (t.fEntries.map (entV (XN 9))) t.fRest) = some ⟨t.fEntries.map (entV (XN 9)), t.fRest⟩ from rfl, qg, rawE_eq (d := 9) (by have := yH; omega) (X1 hc).1 h3 hz]
     cases rawE (Xl 9) t.fEntries <;> rfl
   rw [if_pos (by rw [decide_eq_false h3]; rfl), if_neg (fun h => h3 h.2)]
 rw [if_neg hc, if_pos (by rfl), if_neg (fun h => hc h.1)]
theorem Encode_eq {t : GTree} (hz : szT 10 t) : xW t = some (if ZU t = true ∧ t.fKind = 3 then vaa (Xl 10 t) else ([], 1)) := by
 rw [xW, Raws_eq hz, qg]
 by_cases hc : ZU t = true ∧ t.fKind = 3
 · rw [if_pos hc, if_pos hc, Xl]
   cases hL : rawE (Xl 9) t.fEntries with
   | none => rfl
   | some L =>
    dsimp only
    rw [if_pos rfl, XZ (raws_ok (X1 hc.1).1 hc.2 hz hL), qg, qg]
 rw [if_neg hc, if_neg hc]; rfl
end
end Go.Proofs.YtaddlmlpeghonaaGreatDoor
