/- Parts of the proof, cut down to what it needs. -/
import Derived.Test.YtaddlmlpeghonaaGreatDoorMG
import Derived.Shelf.Unicode.DecodeAny
import Derived.KernelRfl
import Derived.Shelf.Spec.SlicesInsert
import Derived.Lib.AppendZerosOnto
set_option linter.constructorNameAsVariable false
set_option linter.unusedSimpArgs false
set_option linter.unusedVariables false
namespace Go.Proofs.YtaddlmlpeghonaaGreatDoor
open _root_.List renaming length → qb, flatMap → qe, length_append → qi, length_cons → qj, length_nil → ql, append_assoc → qp, mem_cons_of_mem → qs, mem_cons_self → qt, getD_eq_getElem?_getD → qv, map_nil → qw, drop_zero → qy, nil_append → qz, append_nil → qB, map_append → qD, cons_append → qE, length_eq_zero_iff → qF, map_cons → qG, length_singleton → qJ, mem_cons → qM, replicate → qP, getElem?_append_left → qS, flatMap_cons → qT, flatMap_append → qV, range_zero → qW, all_cons → qY, getElem?_eq_getElem → qZ, range_succ → q2, getElem?_eq_some_iff → q7, all_nil → q9, length_map → ua, all_eq_true → uc, flatMap_nil → ud, getElem?_set_ne → ue, take_of_length_le → uh, getElem?_append_right → ui, take_length → ul, pairwise_cons → um, take_append_drop → un, filter_cons → uo, mem_append → uq, getElem?_set_self → ur, getElem?_eq_none → uu, set_cons_zero → uv, mem_map → uw, range → uz, mem_singleton → uA, mem_append_right → uE, length_take → uG, length_drop → uH, getElem?_cons_zero → uI, getElem?_cons_succ → uJ, set_cons_succ → uO
open _root_.Option renaming bind_some → qg, map_some → ux, getD_some → uN
open _root_.Nat renaming reduceEqDiff → qa, reduceLT → qc, reduceAdd → qd, reduceLeDiff → qf, zero_add → qm, reduceMul → qq, lt_succ_self → qr, le_refl → qu, reduceSub → qC, mul_le_mul_right → q1, reduceMod → ub, lt_of_lt_of_le → ug, zero_le → uk, le_trans → ut, zero_mul → uy, sub_self → uK, sub_zero → uM, succ_mul → uP, add_zero → uQ, add_assoc → uR, add_mul → uS
open _root_.Bool renaming and_eq_true → qn, not_false → qx, not_true → qH, or_true → qK, and_false → qL, and_true → qN, or_eq_true → qQ, or_false → qR, and_self → qU, false_eq_true → q3, true_and → uC, false_ne_true → uD, not_eq_true' → uF, false_or → uL
open _root_.Int renaming toNat → qI, toNat_natCast → qX
open _root_.BitVec renaming ofInt → qA, toNat → uj
open _root_.Array renaming length_toList → uf, getD_eq_getD_getElem? → uB, getElem?_eq_getElem → uT
open _root_.UInt8 renaming ofNat → q5
open Result renaming andThen_ok → qk
open Sem renaming run_bind → qo, run_pure → qO
open _root_.Go.Proofs.Tryz renaming prog → qh
section
open Go.Shelf Go.RowKit
def utf8Ren : Go.Shelf.Ren := ⟨fun | 197 => 157 | 260 => 160 | n => n, fun | 0 => 0 | 3 => 3 | 4 => 4 | 5 => 5 | 9 => 9 | 21 => 21 | 46 => 184 | 105 => 213 | 119 => 218 | 138 => 220 | 139 => 221 | n => n, fun | 3 => 0 | 4 => 1 | n => n⟩
theorem XV : Lays.n197 qh utf8Ren where
 mixed := by kernel_rfl
 f197 := Tryz.func157.trans (congrArg some (by kernel_rfl))
 f260 := Tryz.func160.trans (congrArg some (by kernel_rfl))
 t0 := Tryz.underlying0
 a0 := Tryz.isAgg0
 z0 := Tryz.sizeOf0
 v0 := Tryz.zeroValue0
 t3 := Tryz.underlying3
 a3 := Tryz.isAgg3
 z3 := Tryz.sizeOf3
 v3 := Tryz.zeroValue3
 t4 := Tryz.underlying4
 a4 := Tryz.isAgg4
 z4 := Tryz.sizeOf4
 v4 := Tryz.zeroValue4
 t5 := Tryz.underlying5
 a5 := Tryz.isAgg5
 z5 := Tryz.sizeOf5
 v5 := Tryz.zeroValue5
 t9 := Tryz.underlying9
 a9 := Tryz.isAgg9
 z9 := Tryz.sizeOf9
 v9 := Tryz.zeroValue9
 t21 := Tryz.underlying21
 a21 := Tryz.isAgg21
 z21 := Tryz.sizeOf21
 v21 := Tryz.zeroValue21
 t46 := Tryz.underlying184
 a46 := Tryz.isAgg184
 z46 := Tryz.sizeOf184
 v46 := Tryz.zeroValue184
 t105 := Tryz.underlying213
 a105 := Tryz.isAgg213
 z105 := Tryz.sizeOf213
 v105 := Tryz.zeroValue213
 t119 := Tryz.underlying218
 a119 := Tryz.isAgg218
 z119 := Tryz.sizeOf218
 t138 := Tryz.underlying220
 a138 := Tryz.isAgg220
 z138 := Tryz.sizeOf220
 v138 := Tryz.zeroValue220
 t139 := Tryz.underlying221
 a139 := Tryz.isAgg221
 z139 := Tryz.sizeOf221
 v139 := Tryz.zeroValue221
 g3 := by kernel_rfl
 g4 := by kernel_rfl
namespace AM
def dec0 (s : List UInt8) : Nat × Nat := if s = [] then (65533, 0) else Yx s 0
theorem dec0_eq (s : List UInt8) : Lib.decodeGo ⟨s.toArray⟩ = dec0 s := by
 unfold Lib.decodeGo dec0 Yx
 by_cases h : s = []
 · subst h; rfl
 rw [if_neg h, if_neg]
 intro h0
 exact h (List.eq_nil_of_length_eq_zero (by simpa [ByteArray.size] using h0))
theorem decode_ev (s : List UInt8) (σ : Store) : ACalls qh 157 [.str s] σ (fun r σ' => r = .tup [.int .i32 ((dec0 s).1 : Int), .int .i64 ((dec0 s).2 : Int)] ∧ σ' = σ) := by
 refine ⟨Tryz.call157, fun E vs hS hl => ?_⟩
 obtain ⟨v, e⟩ : ∃ v, vs = #[v] := by
  have h1 : vs.toList.length = 1 := hl.1
  obtain ⟨l⟩ := vs
  match l, h1 with
  | [v], _ => exact ⟨v, rfl⟩
 subst e
 have h2 : VR E (.str s) v := hl.2 0 (by simp)
 cases h2 with | str _ b hb =>
 subst hb
 refine (Any.utf8_DecodeRuneInString XV b E.w hS.glb.utf8).mono ?_
 rintro e w' ⟨rfl, hb⟩
 obtain ⟨hS', hx⟩ := hS.grew (w' := w') ⟨hb.os, hb.tape, hb.output, hb.size, hb.block⟩
 refine ⟨_, .tup [.int .i32 ((dec0 b.data.toList).1 : Int), .int .i64 ((dec0 b.data.toList).2 : Int)], σ, { E with w := w' }, rfl, rfl, ?_, hS', hx, rfl, rfl⟩
 rw [← dec0_eq]
 refine .tup _ _ rfl fun i hi => ?_
 match i, hi with
 | 0, _ => exact .int _ _
 | 1, _ => exact .int _ _
def ZE (a0 : List UInt8) : Int × Int := (((dec0 a0).1 : Int), ((dec0 a0).2 : Int))
theorem ZE.ev (a0 : List UInt8) (r : Int × Int) (h : ZE a0 = r) (σ : Store) : ACalls qh 157 [.str a0] σ (fun r' σ' => r' = .tup [.int .i32 r.1, .int .i64 r.2] ∧ σ' = σ) := by subst h; exact decode_ev a0 σ
end AM
end
section
set_option maxRecDepth 4000
set_option maxHeartbeats 1000000
open AM
def wk (a0 : List UInt8) (a1 : Int) : Option (Int × Int × Bool) :=
 (if ((decide (a1 < 0)) || (decide ((qb a0 : Int) ≤ a1))) = true then some (0, 0, false) else (grd ((0 : Int) ≤ a1 ∧ a1 ≤ (qb a0 : Int) ∧ (qb a0 : Int) ≤ (qb a0 : Int))).bind fun _u5 => bnd (ZE (YP a0 a1 (qb a0 : Int))) fun r7 => (if ((decide (r7.1 = 65533)) && (decide (r7.2 < 2))) = true then some (0, 0, false) else some (r7.1, r7.2, true)))
theorem wk.ok (a0 : List UInt8) (a1 : Int) (r : Int × Int × Bool) (h : wk a0 a1 = some r) : ACalls qh 143 [.str a0, .int .i64 a1] [] (fun r' _ => r' = .tup [.int .i32 r.1, .int .i64 r.2.1, .bool r.2.2]) := by
 refine zf (rs := [.tmp 4, .tmp 5, .tmp 6]) tok Tryz.func143 rfl Tryz.ntmps143 rfl Tryz.call143 (by simp) ?_;refine zl [(0, .str a0), (1, .int .i64 a1)] ⟨rfl, rfl, trivial⟩ ?_;unfold wk at h;refine rgN [0, 1] ?_
 refine za fun Z1 hZ1 => ?_
 refine rc [0, 1, 16] fun K hK => ?_
 refine rnN 3 ?_;refine zh 5 (fun L τ => L = [(0, .str a0), (1, .int .i64 a1), (16, .bool ((decide (a1 < 0)) || (decide ((qb a0 : Int) ≤ a1))))] ∧ τ = []) ?_ ?_
 · refine yA 11 rfl (fun hg11 => ?_) (fun hg11 => ?_)
   · have t2 := eq_true hg11;refine rnN 5 ?_;refine zb ⟨rfl, _, _, ⟨rfl, rfl⟩, .p t2⟩
   have t3 := eq_false hg11;refine rnN 5 ?_;refine zb ⟨rfl, _, _, ⟨rfl, rfl⟩, .p t3⟩
 rintro _ _ ⟨rfl, rfl⟩;refine nkN hK ?_;refine zn (b := ((decide (a1 < 0)) || (decide ((qb a0 : Int) ≤ a1)))) rfl (fun hc4 => ?_) (fun hc4 => ?_)
 · rw [if_pos hc4] at h;refine rgN [4, 5, 6] ?_;cases h;exact rtA
 rw [xN hc4] at h;apply zd;apply hZ1
 refine rc [7, 8] fun K hK => ?_
 obtain ⟨_u5, hu5, h⟩ := bind_some h;have gu5 := wN hu5;have f6 := str_lo (T := tab) (t := 9) rfl rfl gu5;obtain ⟨r7, hr7, h⟩ := zS h;refine zj tok 3 ?_;simp only [go_sem, qc, qa, reduceCtorEq, f6];refine clN rfl rfl rfl (ZE.ev (YP a0 a1 (qb a0 : Int)) r7 hr7 _) ?_;refine rnN 5 ?_;refine nkN hK ?_
 refine za fun Z8 hZ8 => ?_
 refine rc [7, 8, 29] fun K hK => ?_
 refine rnN 3 ?_;refine zh 3 (fun L τ => L = [(7, .int .i32 r7.1), (8, .int .i64 r7.2), (29, .bool ((decide (r7.1 = 65533)) && (decide (r7.2 < 2))))] ∧ τ = []) ?_ ?_
 · refine yA 26 rfl (fun hg26 => ?_) (fun hg26 => ?_)
   · have t9 := eq_true hg26;refine rnN 3 ?_;refine zb ⟨rfl, _, _, ⟨rfl, rfl⟩, .p t9⟩
   have t10 := eq_false hg26;refine rnN 3 ?_;refine zb ⟨rfl, _, _, ⟨rfl, rfl⟩, .p t10⟩
 rintro _ _ ⟨rfl, rfl⟩;refine nkN hK ?_;refine zn (b := ((decide (r7.1 = 65533)) && (decide (r7.2 < 2)))) rfl (fun hc11 => ?_) (fun hc11 => ?_)
 · rw [if_pos hc11] at h;refine rgN [4, 5, 6] ?_;cases h;exact rtA
 rw [xN hc11] at h;apply zd;apply hZ8;refine rgN [4, 5, 6] ?_;cases h;exact rtA
theorem wk.ev (a0 : List UInt8) (a1 : Int) (r : Int × Int × Bool) (h : wk a0 a1 = some r) (σ : Store) : ACalls qh 143 [.str a0, .int .i64 a1] σ (fun r' σ' => r' = .tup [.int .i32 r.1, .int .i64 r.2.1, .bool r.2.2] ∧ σ' = σ) :=
 (wk.ok a0 a1 r h).c σ
def yE.l4 (a0 : List UInt8) : Nat → Nat → Option Bool
 | 0, _ => none
 | k4 + 1, p2 => (if p2 < qb a0 then (if ((Yx a0 p2).1 : Int) = 65533 then (wk a0 ((p2 : Nat) : Int)).bind fun r12 => (if (!r12.2.2) = true then some false else ((yE.l4 a0 k4) (p2 + (Yx a0 p2).2))) else ((yE.l4 a0 k4) (p2 + (Yx a0 p2).2))) else some true)
def yE (a0 : List UInt8) : Option Bool :=
 (yE.l4 a0 rounds 0)
theorem yE.ok (a0 : List UInt8) (r : Bool) (h : yE a0 = some r) : ACalls qh 110 [.str a0] [] (fun r' _ => r' = .bool r) := by
 refine zf (rs := [.tmp 2]) tok Tryz.func110 rfl Tryz.ntmps110 rfl Tryz.call110 (by simp) ?_;refine zl [(0, .str a0)] ⟨rfl, trivial⟩ ?_;unfold yE at h;refine rgN [0] ?_
 refine za fun Z1 hZ1 => ?_
 refine rgN [0, 9] ?_;apply ze;refine zq (fun m L τ => ∃ (k4 : Nat) (p2 : Nat), m = 0 + k4 ∧ L = [(0, .str a0), (9, .it 0)] ∧ τ = [.iter a0 p2] ∧ yE.l4 a0 k4 p2 = some r) _ ⟨rounds, 0, rfl, rfl, rfl, h⟩ .s ?_;rintro m L τ ⟨k4, p2, rfl, rfl, rfl, h⟩
 rcases k4 with _ | k4
 · cases h
 simp only [yE.l4] at h
 by_cases hn5 : p2 < qb a0
 · rw [if_pos hn5] at h;have t6 := eq_true hn5
   refine rg tok [0, 9, 10, 11] fun K hK => ?_
   simp only [go_sem, qc, qa, qd, reduceCtorEq, X9, if_true, if_false, t6];apply hK
   refine za fun Z7 hZ7 => ?_
   refine zp rfl ?_;apply zd;apply hZ7;apply ze;refine rgN [0, 3, 4, 9] ?_
   refine za fun Z8 hZ8 => ?_
   refine rgN [0, 3, 9, 15] ?_;refine zx rfl (fun hc9 => ?_) (fun hc9 => ?_)
   · rw [if_neg hc9] at h;have t10 := eq_false hc9;apply zv;exact ⟨_, _, _, qr (0 + k4), ⟨k4, p2 + (Yx a0 p2).2, rfl, rfl, rfl, h⟩, .s⟩
   rw [if_pos hc9] at h;have t11 := eq_true hc9;apply zd;apply hZ8
   refine rc [0, 7, 9] fun K hK => ?_
   obtain ⟨r12, hr12, h⟩ := bind_some h;refine zj tok 2 ?_;simp only [go_sem, qc, qa, reduceCtorEq, t11];refine clN rfl rfl rfl (wk.ev a0 ((p2 : Nat) : Int) r12 hr12 _) ?_;refine rnN 7 ?_;refine nkN hK ?_;refine rgN [0, 9, 24] ?_;refine zn (b := (!r12.2.2)) rfl (fun hc13 => ?_) (fun hc13 => ?_)
   · rw [if_pos hc13] at h;refine rgN [2] ?_;cases h;exact rtA
   rw [xN hc13] at h;apply zd;exact ⟨_, _, _, qr (0 + k4), ⟨k4, p2 + (Yx a0 p2).2, rfl, rfl, rfl, h⟩, .s⟩
 rw [if_neg hn5] at h;have t14 := eq_false hn5
 refine rg tok [0, 9, 10, 11] fun K hK => ?_
 simp only [go_sem, qc, qa, reduceCtorEq, X9, if_true, if_false, t14];apply hK
 refine za fun Z15 hZ15 => ?_
 refine zm rfl ?_;apply zv;apply hZ1;refine rgN [2] ?_;cases h;exact rtA
theorem yE.ev (a0 : List UInt8) (r : Bool) (h : yE a0 = some r) (σ : Store) : ACalls qh 110 [.str a0] σ (fun r' σ' => r' = .bool r ∧ σ' = σ) :=
 (yE.ok a0 r h).c σ
def zD.l4 (a1 : List UInt8) : List GMessage → Int → GMessage × Bool
 | [], x2 => ((⟨[], ([] : List GField), ([] : List Int)⟩ : GMessage), false)
 | y4 :: q4, x2 => (if y4.fName = a1 then (y4, true) else ((zD.l4 a1 q4) (x2 + 1)))
def zD (a0 : GSchema) (a1 : List UInt8) : GMessage × Bool :=
 (zD.l4 a1 a0.fMessages 0)
theorem zD.ok (a0 : GSchema) (a1 : List UInt8) (r : GMessage × Bool) (h : zD a0 a1 = r) : ACalls qh 40 [.agg (encGSchema a0), .str a1] [] (fun r' _ => r' = .tup [.agg (encGMessage r.1), .bool r.2]) := by
 refine zf (rs := [.cell 4 49, .tmp 5]) tok Tryz.func40 rfl Tryz.ntmps40 rfl Tryz.call40 (by simp) ?_;refine zl [(0, .agg (encGSchema a0)), (1, .str a1)] ⟨rfl, rfl, trivial⟩ ?_;unfold zD at h
 refine rg tok [1, 2, 4] fun K hK => ?_
 simp only [go_sem, qc, qa, qd, reduceCtorEq, encGSchema];apply hK
 refine za fun Z1 hZ1 => ?_
 refine rgN [1, 4, 9, 10, 11] ?_;apply ze
 refine yP 9 fun hb4 => ?_
 replace hb4 : qb a0.fMessages ≤ 9223372036854775807 := hb4.1;refine zq (fun m L τ => ∃ (p4 q4 : List GMessage) (x2 : Int), m = qb q4 ∧ L = [(1, .str a1), (4, .op 0 0 0), (9, .ds true (qe encGMessage a0.fMessages) (qb a0.fMessages) false), (10, .int .i64 (qb a0.fMessages : Int)), (11, .int .i64 x2)] ∧ τ = [.cells 0 [.str [], .ds true [] 0 true, .ds true [] 0 true]] ∧ a0.fMessages = p4 ++ q4 ∧ x2 = (qb p4 : Int) ∧ zD.l4 a1 q4 x2 = r) _ ⟨[], a0.fMessages, 0, rfl, rfl, rfl, rfl, rfl, h⟩ (.t [1] false) ?_;rintro m L τ ⟨p4, q4, x2, rfl, rfl, rfl, hE4, hi4, h⟩
 rcases q4 with _ | ⟨y4, q4⟩
 · have hz4 := yl hE4 hi4;simp only [zD.l4] at h
   refine rg tok [1, 4, 9, 10, 11, 12] fun K hK => ?_
   simp only [go_sem, qc, qa, hz4];apply hK
   refine za fun Z5 hZ5 => ?_
   refine zm rfl ?_;apply zv;apply hZ1;refine rgN [4, 5] ?_;cases h;exact rtA
 obtain ⟨hz4, hw4, hx4, hE'4, hi'4⟩ := zW hE4 hi4 hb4;simp only [zD.l4] at h
 refine rg tok [1, 4, 9, 10, 11, 12] fun K hK => ?_
 simp only [go_sem, qc, qa, hz4];apply hK
 refine za fun Z6 hZ6 => ?_
 refine zp rfl ?_;apply zd;apply hZ6
 refine za fun Z7 hZ7 => ?_
 apply ze;have f8 := E22.idxS hx4;have f9 := E22.loadS rfl rfl hx4
 refine rg tok [1, 4, 7, 9, 10, 11] fun K hK => ?_
 simp only [go_sem, qc, qf, qa, qd, encGMessage, f8, f9];apply hK
 refine rgN [1, 4, 7, 9, 10, 11, 18] ?_;refine zx rfl (fun hc10 => ?_) (fun hc10 => ?_)
 · rw [if_pos hc10] at h;have t11 := eq_true hc10
   refine rg tok [4, 5] fun K hK => ?_
   simp only [go_sem, qc, qf, qa, qd, t11];apply hK
   cases h;exact rtA
 rw [if_neg hc10] at h;have t12 := eq_false hc10;apply zd;apply hZ7
 refine rgE tok [1, 4, 9, 10, 11] fun K hK => ?_
 simp only [go_sem, qc, qa, hw4, t12];apply hK
 exact ⟨_, _, _, qr q4.length, ⟨p4 ++ [y4], q4, x2 + 1, rfl, rfl, rfl, hE'4, hi'4, h⟩, (.t [0] false)⟩
theorem zD.ev (a0 : GSchema) (a1 : List UInt8) (r : GMessage × Bool) (h : zD a0 a1 = r) (σ : Store) : ACalls qh 40 [.agg (encGSchema a0), .str a1] σ (fun r' σ' => r' = .tup [.agg (encGMessage r.1), .bool r.2] ∧ σ' = σ) :=
 (zD.ok a0 a1 r h).c σ
def xA.l12 (a1 : Int) : List UInt8 → Int → Int → Option (Int × Int × Int)
 | [], x9, x8 => some (0, 0, 2)
 | y12 :: q12, x9, x8 => (if ((decide (x9 = 9)) && (decide (1 < (y12.toNat : Int)))) = true then some (0, 0, 3) else (grd (0 ≤ IntKind.i64.wrap (7 * x9))).bind fun _u23 => (if 128 ≤ (y12.toNat : Int) then ((xA.l12 a1 q12) (x9 + 1) (IntKind.u64.wrap ((uj (qA 64 x8 ||| qA 64 (IntKind.u64.wrap ((IntKind.u64.wrap (IntKind.u8.wrap ((uj (qA 8 (y12.toNat : Int) &&& ~~~(qA 8 128)) : Nat) : Int))) * 2 ^ (min (qI (IntKind.i64.wrap (7 * x9))) 64)))) : Nat) : Int))) else (if ((decide ((y12.toNat : Int) = 0)) && (decide (0 < x9))) = true then some (0, 0, 3) else some (IntKind.u64.wrap ((uj (qA 64 x8 ||| qA 64 (IntKind.u64.wrap ((IntKind.u64.wrap (IntKind.u8.wrap ((uj (qA 8 (y12.toNat : Int) &&& ~~~(qA 8 128)) : Nat) : Int))) * 2 ^ (min (qI (IntKind.i64.wrap (7 * x9))) 64)))) : Nat) : Int), IntKind.i64.wrap ((IntKind.i64.wrap (a1 + x9)) + 1), 0))))
def xA (a0 : List UInt8) (a1 : Int) : Option (Int × Int × Int) :=
 (if ((decide (a1 < 0)) || (decide ((qb a0 : Int) < a1))) = true then some (0, 0, 1) else (grd ((0 : Int) ≤ a1 ∧ a1 ≤ IntKind.i64.wrap (a1 + (if 10 < IntKind.i64.wrap ((qb a0 : Int) - a1) then 10 else IntKind.i64.wrap ((qb a0 : Int) - a1))) ∧ IntKind.i64.wrap (a1 + (if 10 < IntKind.i64.wrap ((qb a0 : Int) - a1) then 10 else IntKind.i64.wrap ((qb a0 : Int) - a1))) ≤ (qb a0 : Int))).bind fun _u6 => (xA.l12 a1 (YP a0 a1 (IntKind.i64.wrap (a1 + (if 10 < IntKind.i64.wrap ((qb a0 : Int) - a1) then 10 else IntKind.i64.wrap ((qb a0 : Int) - a1))))) 0 0))
theorem xA.ok (a0 : List UInt8) (a1 : Int) (r : Int × Int × Int) (h : xA a0 a1 = some r) : ACalls qh 141 [.ds true (qe encB a0) (qb a0) false, .int .i64 a1] [] (fun r' _ => r' = .tup [.int .u64 r.1, .int .i64 r.2.1, .int .i64 r.2.2]) := by
 refine zf (rs := [.tmp 4, .tmp 5, .tmp 6]) tok Tryz.func141 rfl Tryz.ntmps141 rfl Tryz.call141 (by simp) ?_;refine zl [(0, .ds true (qe encB a0) (qb a0) false), (1, .int .i64 a1)] ⟨rfl, rfl, trivial⟩ ?_;unfold xA at h;refine rgN [0, 1] ?_
 refine za fun Z1 hZ1 => ?_
 refine rc [0, 1, 17] fun K hK => ?_
 refine rnN 3 ?_;refine zh 5 (fun L τ => L = [(0, .ds true (qe encB a0) (qb a0) false), (1, .int .i64 a1), (17, .bool ((decide (a1 < 0)) || (decide ((qb a0 : Int) < a1))))] ∧ τ = []) ?_ ?_
 · refine yA 12 rfl (fun hg12 => ?_) (fun hg12 => ?_)
   · have t2 := eq_true hg12;refine rnN 5 ?_;refine zb ⟨rfl, _, _, ⟨rfl, rfl⟩, .p t2⟩
   have t3 := eq_false hg12;refine rnN 5 ?_;refine zb ⟨rfl, _, _, ⟨rfl, rfl⟩, .p t3⟩
 rintro _ _ ⟨rfl, rfl⟩;refine nkN hK ?_;refine zn (b := ((decide (a1 < 0)) || (decide ((qb a0 : Int) < a1)))) rfl (fun hc4 => ?_) (fun hc4 => ?_)
 · rw [if_pos hc4] at h;refine rgN [4, 5, 6] ?_;cases h;exact rtA
 rw [xN hc4] at h;apply zd;apply hZ1;refine rgN [0, 1, 7] ?_
 refine za fun Z5 hZ5 => ?_
 obtain ⟨_u6, hu6, h⟩ := bind_some h;have gu6 := wN hu6;have f7 := E34.sl_lh gu6
 refine rg tok [1, 7, 27, 28, 29] fun K hK => ?_
 simp only [go_sem, qc, qa, reduceCtorEq, vac, foldO, vbX, f7];apply hK
 apply ze
 refine yP 27 fun hb12 => ?_
 replace hb12 : qb (YP a0 a1 (IntKind.i64.wrap (a1 + (if 10 < IntKind.i64.wrap ((qb a0 : Int) - a1) then 10 else IntKind.i64.wrap ((qb a0 : Int) - a1))))) ≤ 9223372036854775807 := hb12.1;refine zq (fun m L τ => ∃ (p12 q12 : List UInt8) (x9 : Int) (x8 : Int), m = qb q12 ∧ L = [(1, .int .i64 a1), (7, .int .u64 x8), (27, .ds true (qe encB (YP a0 a1 (IntKind.i64.wrap (a1 + (if 10 < IntKind.i64.wrap ((qb a0 : Int) - a1) then 10 else IntKind.i64.wrap ((qb a0 : Int) - a1)))))) (qb (YP a0 a1 (IntKind.i64.wrap (a1 + (if 10 < IntKind.i64.wrap ((qb a0 : Int) - a1) then 10 else IntKind.i64.wrap ((qb a0 : Int) - a1)))))) false), (28, .int .i64 (qb (YP a0 a1 (IntKind.i64.wrap (a1 + (if 10 < IntKind.i64.wrap ((qb a0 : Int) - a1) then 10 else IntKind.i64.wrap ((qb a0 : Int) - a1))))) : Int)), (29, .int .i64 x9)] ∧ τ = [] ∧ YP a0 a1 (IntKind.i64.wrap (a1 + (if 10 < IntKind.i64.wrap ((qb a0 : Int) - a1) then 10 else IntKind.i64.wrap ((qb a0 : Int) - a1)))) = p12 ++ q12 ∧ x9 = (qb p12 : Int) ∧ xA.l12 a1 q12 x9 x8 = some r) _ ⟨[], YP a0 a1 (IntKind.i64.wrap (a1 + (if 10 < IntKind.i64.wrap ((qb a0 : Int) - a1) then 10 else IntKind.i64.wrap ((qb a0 : Int) - a1)))), 0, 0, rfl, rfl, rfl, rfl, rfl, h⟩ .s ?_;rintro m L τ ⟨p12, q12, x9, x8, rfl, rfl, rfl, hE12, hi12, h⟩
 rcases q12 with _ | ⟨y12, q12⟩
 · have hz12 := yl hE12 hi12;simp only [xA.l12] at h
   refine rg tok [1, 7, 27, 28, 29, 30] fun K hK => ?_
   simp only [go_sem, qc, qa, hz12];apply hK
   refine za fun Z13 hZ13 => ?_
   refine zm rfl ?_;apply zv;apply hZ5;refine rgN [4, 5, 6] ?_;cases h;exact rtA
 obtain ⟨hz12, hw12, hx12, hE'12, hi'12⟩ := zW hE12 hi12 hb12;simp only [xA.l12] at h
 refine rg tok [1, 7, 27, 28, 29, 30] fun K hK => ?_
 simp only [go_sem, qc, qa, hz12];apply hK
 refine za fun Z14 hZ14 => ?_
 refine zp rfl ?_;apply zd;apply hZ14
 refine za fun Z15 hZ15 => ?_
 apply ze;have f16 := E34.idxS hx12;have f17 := E34.fldS0 (f := 5) rfl rfl hx12
 refine rg tok [1, 7, 8, 9, 27, 28, 29] fun K hK => ?_
 simp only [go_sem, qc, qa, encB, f16, f17];apply hK
 refine za fun Z18 hZ18 => ?_
 refine rc [1, 7, 8, 9, 27, 28, 29, 39] fun K hK => ?_
 refine rnN 3 ?_;refine zh 3 (fun L τ => L = [(1, .int .i64 a1), (7, .int .u64 x8), (8, .int .i64 x9), (9, .int .u8 (y12.toNat : Int)), (27, .ds true (qe encB (YP a0 a1 (IntKind.i64.wrap (a1 + (if 10 < IntKind.i64.wrap ((qb a0 : Int) - a1) then 10 else IntKind.i64.wrap ((qb a0 : Int) - a1)))))) (qb (YP a0 a1 (IntKind.i64.wrap (a1 + (if 10 < IntKind.i64.wrap ((qb a0 : Int) - a1) then 10 else IntKind.i64.wrap ((qb a0 : Int) - a1)))))) false), (28, .int .i64 (qb (YP a0 a1 (IntKind.i64.wrap (a1 + (if 10 < IntKind.i64.wrap ((qb a0 : Int) - a1) then 10 else IntKind.i64.wrap ((qb a0 : Int) - a1))))) : Int)), (29, .int .i64 x9), (39, .bool ((decide (x9 = 9)) && (decide (1 < (y12.toNat : Int)))))] ∧ τ = []) ?_ ?_
 · refine yA 36 rfl (fun hg36 => ?_) (fun hg36 => ?_)
   · have t19 := eq_true hg36;refine rnN 3 ?_;refine zb ⟨rfl, _, _, ⟨rfl, rfl⟩, .p t19⟩
   have t20 := eq_false hg36;refine rnN 3 ?_;refine zb ⟨rfl, _, _, ⟨rfl, rfl⟩, .p t20⟩
 rintro _ _ ⟨rfl, rfl⟩;refine nkN hK ?_;refine zn (b := ((decide (x9 = 9)) && (decide (1 < (y12.toNat : Int))))) rfl (fun hc21 => ?_) (fun hc21 => ?_)
 · rw [if_pos hc21] at h;refine rgN [4, 5, 6] ?_;cases h;exact rtA
 rw [xN hc21] at h;apply zd;apply hZ18;have f22 := xw (T := tab) (src := 5) (dst := 140) rfl rfl rfl;obtain ⟨_u23, hu23, h⟩ := bind_some h;have gu23 := wN hu23;have gu23n : (IntKind.i64.wrap (7 * x9) < 0) = False := eq_false (by omega)
 refine rg tok [1, 7, 8, 9, 27, 28, 29] fun K hK => ?_
 simp only [go_sem, qc, qa, f22, gu23n, Yw];apply hK
 refine za fun Z24 hZ24 => ?_
 refine rgN [1, 7, 8, 9, 27, 28, 29, 49] ?_;refine zx rfl (fun hc25 => ?_) (fun hc25 => ?_)
 · rw [if_pos hc25] at h;have t26 := eq_true hc25;apply zv;apply hZ15
   refine rgE tok [1, 7, 27, 28, 29] fun K hK => ?_
   simp only [go_sem, qc, qa, hw12, t26];apply hK
   exact ⟨_, _, _, qr q12.length, ⟨p12 ++ [y12], q12, x9 + 1, IntKind.u64.wrap ((uj (qA 64 x8 ||| qA 64 (IntKind.u64.wrap ((IntKind.u64.wrap (IntKind.u8.wrap ((uj (qA 8 (y12.toNat : Int) &&& ~~~(qA 8 128)) : Nat) : Int))) * 2 ^ (min (qI (IntKind.i64.wrap (7 * x9))) 64)))) : Nat) : Int), rfl, rfl, rfl, hE'12, hi'12, h⟩, .s⟩
 rw [if_neg hc25] at h;have t27 := eq_false hc25;apply zd;apply hZ24
 refine za fun Z28 hZ28 => ?_
 refine rc [1, 7, 8, 55] fun K hK => ?_
 refine zj tok 3 ?_;simp only [go_sem, qc, qa, t27];refine zh 3 (fun L τ => L = [(1, .int .i64 a1), (7, .int .u64 (IntKind.u64.wrap ((uj (qA 64 x8 ||| qA 64 (IntKind.u64.wrap ((IntKind.u64.wrap (IntKind.u8.wrap ((uj (qA 8 (y12.toNat : Int) &&& ~~~(qA 8 128)) : Nat) : Int))) * 2 ^ (min (qI (IntKind.i64.wrap (7 * x9))) 64)))) : Nat) : Int))), (8, .int .i64 x9), (55, .bool ((decide ((y12.toNat : Int) = 0)) && (decide (0 < x9))))] ∧ τ = []) ?_ ?_
 · refine yA 52 rfl (fun hg52 => ?_) (fun hg52 => ?_)
   · have t29 := eq_true hg52;refine rnN 3 ?_;refine zb ⟨rfl, _, _, ⟨rfl, rfl⟩, .p t29⟩
   have t30 := eq_false hg52;refine rnN 3 ?_;refine zb ⟨rfl, _, _, ⟨rfl, rfl⟩, .p t30⟩
 rintro _ _ ⟨rfl, rfl⟩;refine nkN hK ?_;refine zn (b := ((decide ((y12.toNat : Int) = 0)) && (decide (0 < x9)))) rfl (fun hc31 => ?_) (fun hc31 => ?_)
 · rw [if_pos hc31] at h;refine rgN [4, 5, 6] ?_;cases h;exact rtA
 rw [xN hc31] at h;apply zd;apply hZ28;refine rgN [4, 5, 6] ?_;cases h;exact rtA
theorem xA.ev (a0 : List UInt8) (a1 : Int) (r : Int × Int × Int) (h : xA a0 a1 = some r) (σ : Store) : ACalls qh 141 [.ds true (qe encB a0) (qb a0) false, .int .i64 a1] σ (fun r' σ' => r' = .tup [.int .u64 r.1, .int .i64 r.2.1, .int .i64 r.2.2] ∧ σ' = σ) :=
 (xA.ok a0 a1 r h).c σ
def ZP (a0 : Int) : Int :=
 IntKind.i64.wrap ((uj (qA 64 (IntKind.i64.wrap (Int.fdiv a0 (2 ^ (min (qI 1) 64)))) ^^^ qA 64 (IntKind.i64.wrap (0 - (IntKind.i64.wrap (IntKind.u64.wrap ((uj (qA 64 a0 &&& qA 64 1) : Nat) : Int)))))) : Nat) : Int)
theorem ZP.ok (a0 : Int) (r : Int) (h : ZP a0 = r) : ACalls qh 142 [.int .u64 a0] [] (fun r' _ => r' = .int .i64 r) := by
 refine zf (rs := [.tmp 2]) tok Tryz.func142 rfl Tryz.ntmps142 rfl Tryz.call142 (by simp) ?_;refine zl [(0, .int .u64 a0)] ⟨rfl, trivial⟩ ?_;unfold ZP at h;refine rgN [0] ?_;have f1 := xw (T := tab) (src := 140) (dst := 3) rfl rfl rfl;have f2 := xw (T := tab) (src := 140) (dst := 3) rfl rfl rfl
 refine rg tok [2] fun K hK => ?_
 simp only [go_sem, qc, qa, reduceCtorEq, f1, Yw, Int.reduceLT];apply hK
 cases h;exact rtA
theorem ZP.ev (a0 : Int) (r : Int) (h : ZP a0 = r) (σ : Store) : ACalls qh 142 [.int .u64 a0] σ (fun r' σ' => r' = .int .i64 r ∧ σ' = σ) :=
 (ZP.ok a0 r h).c σ
def wE (a0 : List UInt8) (a1 : Int) : Option (GRaw × Int × Int) :=
 (xA a0 a1).bind fun r1 => (if r1.2.2 = 0 then (if ((decide (r1.1 < 2)) || (decide (500 < IntKind.u64.wrap ((r1.1).tdiv 2)))) = true then some ((⟨0, 0, 0, []⟩ : GRaw), 0, 7) else (xA a0 r1.2.1).bind fun r11 => (if r11.2.2 = 0 then (if IntKind.i64.wrap ((r1.1).tmod 2) = 0 then bnd (ZP r11.1) fun r18 => some ((⟨IntKind.i64.wrap (IntKind.u64.wrap ((r1.1).tdiv 2)), IntKind.i64.wrap ((r1.1).tmod 2), r18, []⟩ : GRaw), r11.2.1, 0) else (if IntKind.u64.wrap (IntKind.i64.wrap ((qb a0 : Int) - r11.2.1)) < r11.1 then some ((⟨0, 0, 0, []⟩ : GRaw), 0, 2) else (grd ((0 : Int) ≤ r11.2.1 ∧ r11.2.1 ≤ IntKind.i64.wrap (r11.2.1 + (IntKind.i64.wrap r11.1)) ∧ IntKind.i64.wrap (r11.2.1 + (IntKind.i64.wrap r11.1)) ≤ (qb a0 : Int))).bind fun _u25 => some ((⟨IntKind.i64.wrap (IntKind.u64.wrap ((r1.1).tdiv 2)), IntKind.i64.wrap ((r1.1).tmod 2), 0, YP a0 r11.2.1 (IntKind.i64.wrap (r11.2.1 + (IntKind.i64.wrap r11.1)))⟩ : GRaw), IntKind.i64.wrap (r11.2.1 + (IntKind.i64.wrap r11.1)), 0))) else some ((⟨0, 0, 0, []⟩ : GRaw), 0, r11.2.2))) else some ((⟨0, 0, 0, []⟩ : GRaw), 0, r1.2.2))
theorem wE.ok (a0 : List UInt8) (a1 : Int) (r : GRaw × Int × Int) (h : wE a0 a1 = some r) : ACalls qh 108 [.ds true (qe encB a0) (qb a0) false, .int .i64 a1] [] (fun r' _ => r' = .tup [.agg (encGRaw r.1), .int .i64 r.2.1, .int .i64 r.2.2]) := by
 refine zf (rs := [.cell 4 62, .tmp 5, .tmp 6]) tok Tryz.func108 rfl Tryz.ntmps108 rfl Tryz.call108 (by simp) ?_;refine zl [(0, .ds true (qe encB a0) (qb a0) false), (1, .int .i64 a1)] ⟨rfl, rfl, trivial⟩ ?_;unfold wE at h;refine rgN [0, 1, 4] ?_
 refine rc [0, 1, 4, 7, 8] fun K hK => ?_
 obtain ⟨r1, hr1, h⟩ := bind_some h;refine rnN 2 ?_;refine clN rfl rfl rfl (xA.ev a0 a1 r1 hr1 _) ?_;refine rnN 7 ?_;refine nkN hK ?_
 refine za fun Z2 hZ2 => ?_
 apply ze;refine rgN [0, 1, 4, 7, 8, 19] ?_;refine zx rfl (fun hc3 => ?_) (fun hc3 => ?_)
 · rw [if_neg hc3] at h;have t4 := eq_false hc3
   refine rg tok [4, 5, 6] fun K hK => ?_
   simp only [go_sem, qc, qf, qa, qd, reduceCtorEq, t4];apply hK
   cases h;exact rtA
 rw [if_pos hc3] at h;have t5 := eq_true hc3
 refine rc [0, 1, 4, 7, 24] fun K hK => ?_
 refine zj tok 3 ?_;simp only [go_sem, qc, qa, reduceCtorEq, t5];refine zh 4 (fun L τ => L = [(0, .ds true (qe encB a0) (qb a0) false), (1, .int .i64 r1.2.1), (4, .op 0 0 0), (7, .int .u64 r1.1), (31, .bool ((decide (r1.1 < 2)) || (decide (500 < IntKind.u64.wrap ((r1.1).tdiv 2)))))] ∧ τ = [.cells 0 [.int .i64 0, .int .i64 0, .int .i64 0, .str []]]) ?_ ?_
 · refine yA 27 rfl (fun hg27 => ?_) (fun hg27 => ?_)
   · have t6 := eq_true hg27;refine rnN 4 ?_;refine zb ⟨rfl, _, _, ⟨rfl, rfl⟩, .p t6⟩
   have t7 := eq_false hg27;refine zj tok 4 ?_;simp only [go_sem, qc, qa, reduceCtorEq, Int.reduceEq];refine zb ⟨rfl, _, _, ⟨rfl, rfl⟩, .p t7⟩
 rintro _ _ ⟨rfl, rfl⟩;refine rnN 1 ?_;refine nkN hK ?_;refine zn (b := ((decide (r1.1 < 2)) || (decide (500 < IntKind.u64.wrap ((r1.1).tdiv 2))))) rfl (fun hc8 => ?_) (fun hc8 => ?_)
 · rw [if_pos hc8] at h;refine rgN [4, 5, 6] ?_;cases h;exact rtA
 rw [xN hc8] at h;apply zd;apply hZ2;have f9 := xw (T := tab) (src := 140) (dst := 3) rfl rfl rfl;have f10 := xw (T := tab) (src := 140) (dst := 3) rfl rfl rfl
 refine rg tok [0, 1, 4, 9] fun K hK => ?_
 simp only [go_sem, qc, qf, qa, qd, reduceCtorEq, f9, Int.reduceEq];apply hK
 refine rc [0, 1, 4, 8, 9, 10] fun K hK => ?_
 obtain ⟨r11, hr11, h⟩ := bind_some h;refine rnN 2 ?_;refine clN rfl rfl rfl (xA.ev a0 r1.2.1 r11 hr11 _) ?_;refine rnN 7 ?_;refine nkN hK ?_
 refine za fun Z12 hZ12 => ?_
 apply ze;refine rgN [0, 1, 4, 8, 9, 10, 47] ?_;refine zx rfl (fun hc13 => ?_) (fun hc13 => ?_)
 · rw [if_neg hc13] at h;have t14 := eq_false hc13
   refine rg tok [4, 5, 6] fun K hK => ?_
   simp only [go_sem, qc, qf, qa, qd, reduceCtorEq, t14];apply hK
   cases h;exact rtA
 rw [if_pos hc13] at h;have t15 := eq_true hc13
 refine rg tok [0, 1, 4, 9, 10, 52] fun K hK => ?_
 simp only [go_sem, qc, qa, qd, reduceCtorEq, t15];apply hK
 refine zx rfl (fun hc16 => ?_) (fun hc16 => ?_)
 · rw [if_pos hc16] at h;have t17 := eq_true hc16
   refine rc [1, 4, 9] fun K hK => ?_
   obtain ⟨r18, hr18, h⟩ := zS h;refine zj tok 1 ?_;simp only [go_sem, qc, qa, reduceCtorEq, t17];refine clN rfl rfl rfl (ZP.ev r11.1 r18 hr18 _) ?_;refine zj tok 2 ?_;simp only [go_sem, qc, qf, qa, qd, reduceCtorEq, encGRaw];refine nkN hK ?_;refine rgN [4, 5, 6] ?_;cases h;exact rtA
 rw [if_neg hc16] at h;have t19 := eq_false hc16;have f20 := xw (T := tab) (src := 3) (dst := 140) rfl rfl rfl
 refine rg tok [0, 1, 4, 9, 10, 61] fun K hK => ?_
 simp only [go_sem, qc, qa, reduceCtorEq, t19, f20];apply hK
 refine zx rfl (fun hc21 => ?_) (fun hc21 => ?_)
 · rw [if_pos hc21] at h;have t22 := eq_true hc21
   refine rg tok [4, 5, 6] fun K hK => ?_
   simp only [go_sem, qc, qf, qa, qd, reduceCtorEq, t22];apply hK
   cases h;exact rtA
 rw [if_neg hc21] at h;have t23 := eq_false hc21;apply zd;apply hZ12;have f24 := xw (T := tab) (src := 140) (dst := 3) rfl rfl rfl
 refine rg tok [0, 1, 4, 9, 11] fun K hK => ?_
 simp only [go_sem, qc, qa, reduceCtorEq, t23, f24];apply hK
 obtain ⟨_u25, hu25, h⟩ := bind_some h;have gu25 := wN hu25;have f26 := E34.sl_lh gu25;have f27 := vai (T := tab) (src := 34) (dst := 9) rfl rfl rfl rfl rfl rfl (YP a0 r11.2.1 (IntKind.i64.wrap (r11.2.1 + (IntKind.i64.wrap r11.1))))
 refine rg tok [4, 9, 11] fun K hK => ?_
 simp only [go_sem, qc, qf, qa, qd, reduceCtorEq, f26, f27];apply hK
 refine rgN [4, 5, 6] ?_;cases h;exact rtA
theorem wE.ev (a0 : List UInt8) (a1 : Int) (r : GRaw × Int × Int) (h : wE a0 a1 = some r) (σ : Store) : ACalls qh 108 [.ds true (qe encB a0) (qb a0) false, .int .i64 a1] σ (fun r' σ' => r' = .tup [.agg (encGRaw r.1), .int .i64 r.2.1, .int .i64 r.2.2] ∧ σ' = σ) :=
 (wE.ok a0 a1 r h).c σ
def xu.l12 (a0 : List UInt8) : Nat → List GRaw → Int → Option (List GRaw × Int)
 | 0, _, _ => none
 | k12 + 1, l6, x8 => (if x8 < (qb a0 : Int) then (wE a0 x8).bind fun r16 => (if r16.2.2 = 0 then (ZZ (qb l6 + 1) 40).bind fun _u21 => ((xu.l12 a0 k12) (l6 ++ [r16.1]) r16.2.1) else some (([] : List GRaw), r16.2.2)) else some (l6, 0))
def xu (a0 : List UInt8) : Option (List GRaw × Int) :=
 (if 4096 < (qb a0 : Int) then some (([] : List GRaw), 4) else (xu.l12 a0 rounds ([] : List GRaw) 0))
theorem xu.ok (a0 : List UInt8) (r : List GRaw × Int) (h : xu a0 = some r) : ACalls qh 64 [.ds true (qe encB a0) (qb a0) false] [] (fun r' _ => r' = .tup [.ds true (qe encGRaw r.1) (qb r.1) false, .int .i64 r.2]) := by
 refine zf (rs := [.tmp 2, .tmp 3]) tok Tryz.func64 rfl Tryz.ntmps64 rfl Tryz.call64 (by simp) ?_;refine zl [(0, .ds true (qe encB a0) (qb a0) false)] ⟨rfl, trivial⟩ ?_;unfold xu at h;refine rgN [0] ?_
 refine za fun Z1 hZ1 => ?_
 refine rgN [0, 11] ?_;refine zx rfl (fun hc2 => ?_) (fun hc2 => ?_)
 · rw [if_pos hc2] at h;have t3 := eq_true hc2
   refine rg tok [2, 3] fun K hK => ?_
   simp only [go_sem, qc, qa, reduceCtorEq, t3];apply hK
   cases h;exact rtA
 rw [if_neg hc2] at h;have t4 := eq_false hc2;apply zd;apply hZ1
 refine rg tok [0, 4] fun K hK => ?_
 simp only [go_sem, qc, qa, reduceCtorEq, t4];apply hK
 refine wC 4 4 rfl ?_;refine zU (L := [(0, .ds true (qe encB a0) (qb a0) false), (4, .os true 4 0 0 0 (qb ([] : List GRaw)) false)]) (τ := [.cells 0 (qe encGRaw ([] : List GRaw))]) .s ?_
 refine za fun Z5 hZ5 => ?_
 refine rgN [0, 4, 5] ?_;apply ze;refine zq (fun m L τ => ∃ (k12 : Nat) (l6 : List GRaw) (x8 : Int) (v7 : Nat), m = 0 + k12 ∧ L = [(0, .ds true (qe encB a0) (qb a0) false), (4, .os true 4 0 v7 0 (qb l6) false), (5, .int .i64 x8)] ∧ τ = [.cells v7 (qe encGRaw l6)] ∧ xu.l12 a0 k12 l6 x8 = some r) _ ⟨rounds, ([] : List GRaw), 0, 0, rfl, rfl, rfl, h⟩ .s ?_;rintro m L τ ⟨k12, l6, x8, v7, rfl, rfl, rfl, h⟩
 rcases k12 with _ | k12
 · cases h
 simp only [xu.l12] at h
 refine za fun Z13 hZ13 => ?_
 refine rgN [0, 4, 5, 15] ?_;refine zx rfl (fun hc14 => ?_) (fun hc14 => ?_)
 · rw [if_pos hc14] at h;have t15 := eq_true hc14;apply zd;apply hZ13;apply ze
   refine rc [0, 4, 6, 7, 8] fun K hK => ?_
   obtain ⟨r16, hr16, h⟩ := bind_some h;refine zj tok 2 ?_;simp only [go_sem, qc, qa, reduceCtorEq, t15];refine clN rfl rfl rfl (wE.ev a0 x8 r16 hr16 _) ?_;refine zj tok 8 ?_;simp only [go_sem, qc, qf, qa, qd, reduceCtorEq, encGRaw];refine nkN hK ?_
   refine za fun Z17 hZ17 => ?_
   refine rgN [0, 4, 6, 7, 8, 24] ?_;refine zx rfl (fun hc18 => ?_) (fun hc18 => ?_)
   · rw [if_neg hc18] at h;have t19 := eq_false hc18
     refine rg tok [2, 3] fun K hK => ?_
     simp only [go_sem, qc, qa, reduceCtorEq, t19];apply hK
     cases h;exact rtA
   rw [if_pos hc18] at h;have t20 := eq_true hc18;apply zd;apply hZ17;obtain ⟨_u21, hu21, h⟩ := bind_some h;have gu21 := yd hu21;have f22 := (zr E28.len l6)
   refine rg tok [0, 4, 7] fun K hK => ?_
   simp only [go_sem, qc, qf, qa, qd, qq, reduceCtorEq, zH, zX, q2, qW, true_and, ub, z6, zM, yg, t20, gu21, f22, yv, q9, qY, AV.one, qU, qz, qj, ql, qm, qE];apply hK
   refine zU (L := [(0, .ds true (qe encB a0) (qb a0) false), (4, .os true 4 0 (v7 + 1) 0 (qb (l6 ++ [r16.1])) false), (7, .int .i64 r16.2.1)]) (τ := [.cells (v7 + 1) (qe encGRaw (l6 ++ [r16.1])), .cells 0 [.int .i64 r16.1.fTag, .int .i64 r16.1.fWire, .int .i64 r16.1.fN, .str r16.1.fB], .cells 0 [.int .i64 r16.1.fTag, .int .i64 r16.1.fWire, .int .i64 r16.1.fN, .str r16.1.fB]]) .s ?_
   refine rgE tok [0, 4, 5] fun K hK => ?_
   simp only [go_sem, qc, qa, reduceCtorEq];apply hK
   exact ⟨_, _, _, qr (0 + k12), ⟨k12, l6 ++ [r16.1], r16.2.1, v7 + 1, rfl, rfl, rfl, h⟩, (.t [0] false)⟩
 rw [if_neg hc14] at h;have t23 := eq_false hc14;apply zv;apply hZ5
 refine rg tok [2, 3] fun K hK => ?_
 simp only [go_sem, qc, qa, reduceCtorEq, t23];apply hK
 cases h;exact rtA
theorem xu.ev (a0 : List UInt8) (r : List GRaw × Int) (h : xu a0 = some r) (σ : Store) : ACalls qh 64 [.ds true (qe encB a0) (qb a0) false] σ (fun r' σ' => r' = .tup [.ds true (qe encGRaw r.1) (qb r.1) false, .int .i64 r.2] ∧ σ' = σ) :=
 (xu.ok a0 r h).c σ
def zi.l4 (a1 : Int) : List GField → Int → GField × Bool
 | [], x2 => ((⟨[], 0, 0, (⟨0, []⟩ : GType)⟩ : GField), false)
 | y4 :: q4, x2 => (if y4.fTag = a1 then (y4, true) else ((zi.l4 a1 q4) (x2 + 1)))
def zi (a0 : GMessage) (a1 : Int) : GField × Bool :=
 (zi.l4 a1 a0.fFields 0)
theorem zi.ok (a0 : GMessage) (a1 : Int) (r : GField × Bool) (h : zi a0 a1 = r) : ACalls qh 65 [.agg (encGMessage a0), .int .i64 a1] [] (fun r' _ => r' = .tup [.agg (encGField r.1), .bool r.2]) := by
 refine zf (rs := [.cell 4 57, .tmp 5]) tok Tryz.func65 rfl Tryz.ntmps65 rfl Tryz.call65 (by simp) ?_;refine zl [(0, .agg (encGMessage a0)), (1, .int .i64 a1)] ⟨rfl, rfl, trivial⟩ ?_;unfold zi at h
 refine rg tok [1, 2, 4] fun K hK => ?_
 simp only [go_sem, qc, qa, qd, reduceCtorEq, encGMessage];apply hK
 refine za fun Z1 hZ1 => ?_
 refine rgN [1, 4, 9, 10, 11] ?_;apply ze
 refine yP 9 fun hb4 => ?_
 replace hb4 : qb a0.fFields ≤ 9223372036854775807 := hb4.1;refine zq (fun m L τ => ∃ (p4 q4 : List GField) (x2 : Int), m = qb q4 ∧ L = [(1, .int .i64 a1), (4, .op 0 0 0), (9, .ds true (qe encGField a0.fFields) (qb a0.fFields) false), (10, .int .i64 (qb a0.fFields : Int)), (11, .int .i64 x2)] ∧ τ = [.cells 0 [.str [], .int .i64 0, .int .i64 0, .int .i64 0, .str []]] ∧ a0.fFields = p4 ++ q4 ∧ x2 = (qb p4 : Int) ∧ zi.l4 a1 q4 x2 = r) _ ⟨[], a0.fFields, 0, rfl, rfl, rfl, rfl, rfl, h⟩ (.t [1] false) ?_;rintro m L τ ⟨p4, q4, x2, rfl, rfl, rfl, hE4, hi4, h⟩
 rcases q4 with _ | ⟨y4, q4⟩
 · have hz4 := yl hE4 hi4;simp only [zi.l4] at h
   refine rg tok [1, 4, 9, 10, 11, 12] fun K hK => ?_
   simp only [go_sem, qc, qa, hz4];apply hK
   refine za fun Z5 hZ5 => ?_
   refine zm rfl ?_;apply zv;apply hZ1;refine rgN [4, 5] ?_;cases h;exact rtA
 obtain ⟨hz4, hw4, hx4, hE'4, hi'4⟩ := zW hE4 hi4 hb4;simp only [zi.l4] at h
 refine rg tok [1, 4, 9, 10, 11, 12] fun K hK => ?_
 simp only [go_sem, qc, qa, hz4];apply hK
 refine za fun Z6 hZ6 => ?_
 refine zp rfl ?_;apply zd;apply hZ6
 refine za fun Z7 hZ7 => ?_
 apply ze;have f8 := E47.idxS hx4;have f9 := E47.loadS rfl rfl hx4
 refine rg tok [1, 4, 7, 9, 10, 11] fun K hK => ?_
 simp only [go_sem, qc, qf, qa, qd, encGField, f8, f9];apply hK
 refine rgN [1, 4, 7, 9, 10, 11, 18] ?_;refine zx rfl (fun hc10 => ?_) (fun hc10 => ?_)
 · rw [if_pos hc10] at h;have t11 := eq_true hc10
   refine rg tok [4, 5] fun K hK => ?_
   simp only [go_sem, qc, qf, qa, qd, t11];apply hK
   cases h;exact rtA
 rw [if_neg hc10] at h;have t12 := eq_false hc10;apply zd;apply hZ7
 refine rgE tok [1, 4, 9, 10, 11] fun K hK => ?_
 simp only [go_sem, qc, qa, hw4, t12];apply hK
 exact ⟨_, _, _, qr q4.length, ⟨p4 ++ [y4], q4, x2 + 1, rfl, rfl, rfl, hE'4, hi'4, h⟩, (.t [0] false)⟩
theorem zi.ev (a0 : GMessage) (a1 : Int) (r : GField × Bool) (h : zi a0 a1 = r) (σ : Store) : ACalls qh 65 [.agg (encGMessage a0), .int .i64 a1] σ (fun r' σ' => r' = .tup [.agg (encGField r.1), .bool r.2] ∧ σ' = σ) :=
 (zi.ok a0 a1 r h).c σ
def xB (a0 : GType) (a1 : Int) : Bool :=
 (if a0.fKind = 1 then ((decide ((-2147483648) ≤ a1)) && (decide (a1 ≤ 2147483647))) else (if a0.fKind = 3 then ((decide (a1 = 0)) || (decide (a1 = 1))) else (if a0.fKind = 6 then ((decide (0 ≤ a1)) && (decide (a1 ≤ 2147483647))) else decide (a0.fKind = 2))))
theorem xB.ok (a0 : GType) (a1 : Int) (r : Bool) (h : xB a0 a1 = r) : ACalls qh 109 [.agg (encGType a0), .int .i64 a1] [] (fun r' _ => r' = .bool r) := by
 refine zf (rs := [.tmp 4]) tok Tryz.func109 rfl Tryz.ntmps109 rfl Tryz.call109 (by simp) ?_;refine zl [(0, .agg (encGType a0)), (1, .int .i64 a1)] ⟨rfl, rfl, trivial⟩ ?_;unfold xB at h
 refine rg tok [1, 2] fun K hK => ?_
 simp only [go_sem, qc, qa, qd, reduceCtorEq, encGType];apply hK
 refine za fun Z1 hZ1 => ?_
 refine rgN [1, 2, 6] ?_;apply ze;refine rgN [1, 2, 6, 7] ?_;refine zx rfl (fun hc2 => ?_) (fun hc2 => ?_)
 · rw [if_pos hc2] at h;have t3 := eq_true hc2
   refine rc [4] fun K hK => ?_
   refine zj tok 3 ?_;simp only [go_sem, qc, qa, t3];refine zh 3 (fun L τ => L = [(14, .bool ((decide ((-2147483648) ≤ a1)) && (decide (a1 ≤ 2147483647))))] ∧ τ = [.cells 0 [.int .i64 a0.fKind, .str a0.fName]]) ?_ ?_
   · refine yA 11 rfl (fun hg11 => ?_) (fun hg11 => ?_)
     · have t4 := eq_true hg11;refine rnN 3 ?_;refine zb ⟨rfl, _, _, ⟨rfl, rfl⟩, .p t4⟩
     have t5 := eq_false hg11;refine rnN 3 ?_;refine zb ⟨rfl, _, _, ⟨rfl, rfl⟩, .p t5⟩
   rintro _ _ ⟨rfl, rfl⟩;refine rnN 1 ?_;refine nkN hK ?_;cases h;exact rtA
 rw [if_neg hc2] at h;have t6 := eq_false hc2
 refine rg tok [1, 2, 6, 15] fun K hK => ?_
 simp only [go_sem, qc, qa, t6];apply hK
 refine zx rfl (fun hc7 => ?_) (fun hc7 => ?_)
 · rw [if_pos hc7] at h;have t8 := eq_true hc7
   refine rc [4] fun K hK => ?_
   refine zj tok 3 ?_;simp only [go_sem, qc, qa, t8];refine zh 3 (fun L τ => L = [(22, .bool ((decide (a1 = 0)) || (decide (a1 = 1))))] ∧ τ = [.cells 0 [.int .i64 a0.fKind, .str a0.fName]]) ?_ ?_
   · refine yA 19 rfl (fun hg19 => ?_) (fun hg19 => ?_)
     · have t9 := eq_true hg19;refine rnN 3 ?_;refine zb ⟨rfl, _, _, ⟨rfl, rfl⟩, .p t9⟩
     have t10 := eq_false hg19;refine rnN 3 ?_;refine zb ⟨rfl, _, _, ⟨rfl, rfl⟩, .p t10⟩
   rintro _ _ ⟨rfl, rfl⟩;refine rnN 1 ?_;refine nkN hK ?_;cases h;exact rtA
 rw [if_neg hc7] at h;have t11 := eq_false hc7
 refine rg tok [1, 2, 23] fun K hK => ?_
 simp only [go_sem, qc, qa, t11];apply hK
 refine zx rfl (fun hc12 => ?_) (fun hc12 => ?_)
 · rw [if_pos hc12] at h;have t13 := eq_true hc12
   refine rc [4] fun K hK => ?_
   refine zj tok 3 ?_;simp only [go_sem, qc, qa, t13];refine zh 3 (fun L τ => L = [(30, .bool ((decide (0 ≤ a1)) && (decide (a1 ≤ 2147483647))))] ∧ τ = [.cells 0 [.int .i64 a0.fKind, .str a0.fName]]) ?_ ?_
   · refine yA 27 rfl (fun hg27 => ?_) (fun hg27 => ?_)
     · have t14 := eq_true hg27;refine rnN 3 ?_;refine zb ⟨rfl, _, _, ⟨rfl, rfl⟩, .p t14⟩
     have t15 := eq_false hg27;refine rnN 3 ?_;refine zb ⟨rfl, _, _, ⟨rfl, rfl⟩, .p t15⟩
   rintro _ _ ⟨rfl, rfl⟩;refine rnN 1 ?_;refine nkN hK ?_;cases h;exact rtA
 rw [if_neg hc12] at h;have t16 := eq_false hc12;apply zd;apply hZ1
 refine rg tok [4] fun K hK => ?_
 simp only [go_sem, qc, qa, qd, t16];apply hK
 cases h;exact rtA
theorem xB.ev (a0 : GType) (a1 : Int) (r : Bool) (h : xB a0 a1 = r) (σ : Store) : ACalls qh 109 [.agg (encGType a0), .int .i64 a1] σ (fun r' σ' => r' = .bool r ∧ σ' = σ) :=
 (xB.ok a0 a1 r h).c σ
def xP (a0 : GEntry) (a1 : Int) : Int :=
 IntKind.i64.wrap (a0.fTag - a1)
theorem xP.ok (a0 : GEntry) (a1 : Int) (r : Int) (h : xP a0 a1 = r) : ACalls qh 112 [.agg (cellsGEntry a0), .int .i64 a1] [] (fun r' _ => r' = .int .i64 r) := by
 refine zf (rs := [.tmp 4]) tok Tryz.func112 rfl Tryz.ntmps112 rfl Tryz.call112 (by simp) ?_;refine zl [(0, .agg (cellsGEntry a0)), (1, .int .i64 a1)] ⟨rfl, rfl, trivial⟩ ?_;unfold xP at h
 refine rg tok [1, 2] fun K hK => ?_
 simp only [go_sem, qc, qa, qd, reduceCtorEq, cellsGEntry];apply hK
 refine rgN [4] ?_;cases h;exact rtA
theorem xP.ev (a0 : GEntry) (a1 : Int) (r : Int) (h : xP a0 a1 = r) (σ : Store) : ACalls qh 112 [.agg (cellsGEntry a0), .int .i64 a1] σ (fun r' σ' => r' = .int .i64 r ∧ σ' = σ) :=
 (xP.ok a0 a1 r h).c σ
def zk.l6 (a0 : List GEntry) (a1 : Int) : Nat → Int → Int → Option (Int × Bool)
 | 0, _, _ => none
 | k6 + 1, x2, x3 => (if x2 < x3 then (wV a0 (IntKind.i64.wrap (Int.fdiv (IntKind.u64.wrap (IntKind.i64.wrap (x2 + x3))) (2 ^ (min (qI 1) 64))))).bind fun y12 => bnd (xP y12 a1) fun r15 => (if r15 < 0 then ((zk.l6 a0 a1 k6) (IntKind.i64.wrap ((IntKind.i64.wrap (Int.fdiv (IntKind.u64.wrap (IntKind.i64.wrap (x2 + x3))) (2 ^ (min (qI 1) 64)))) + 1)) x3) else ((zk.l6 a0 a1 k6) x2 (IntKind.i64.wrap (Int.fdiv (IntKind.u64.wrap (IntKind.i64.wrap (x2 + x3))) (2 ^ (min (qI 1) 64)))))) else (if x2 < (qb a0 : Int) then (wV a0 x2).bind fun y20 => bnd (xP y20 a1) fun r23 => some (decide (r23 = 0)) else some false).bind fun c20 => some (x2, c20))
def zk (a0 : List GEntry) (a1 : Int) : Option (Int × Bool) :=
 (zk.l6 a0 a1 rounds 0 (qb a0 : Int))
theorem zk.ok (a0 : List GEntry) (a1 : Int) (r : Int × Bool) (h : zk a0 a1 = some r) : ACalls qh 111 [.ds true (qe encGEntry a0) (qb a0) false, .int .i64 a1, .fn (.func 112) [] []] [] (fun r' _ => r' = .tup [.int .i64 r.1, .bool r.2]) := by
 refine zf (rs := [.tmp 6, .tmp 7]) tok Tryz.func111 rfl Tryz.ntmps111 rfl Tryz.call111 (by simp) ?_;refine zl [(0, .ds true (qe encGEntry a0) (qb a0) false), (1, .int .i64 a1), (2, .fn (.func 112) [] [])] ⟨rfl, rfl, rfl, trivial⟩ ?_;unfold zk at h;refine rgN [0, 1, 2] ?_;refine rgN [0, 1, 2, 8] ?_;refine rgN [0, 1, 2, 8, 9, 10] ?_
 refine za fun Z1 hZ1 => ?_
 apply ze;refine zq (fun m L τ => ∃ (k6 : Nat) (x2 : Int) (x3 : Int), m = 0 + k6 ∧ L = [(0, .ds true (qe encGEntry a0) (qb a0) false), (1, .int .i64 a1), (2, .fn (.func 112) [] []), (8, .int .i64 (qb a0 : Int)), (9, .int .i64 x2), (10, .int .i64 x3)] ∧ τ = [] ∧ zk.l6 a0 a1 k6 x2 x3 = some r) _ ⟨rounds, 0, (qb a0 : Int), rfl, rfl, rfl, h⟩ .s ?_;rintro m L τ ⟨k6, x2, x3, rfl, rfl, rfl, h⟩
 rcases k6 with _ | k6
 · cases h
 simp only [zk.l6] at h
 refine za fun Z7 hZ7 => ?_
 refine rgN [0, 1, 2, 8, 9, 10, 17] ?_;refine zx rfl (fun hc8 => ?_) (fun hc8 => ?_)
 · rw [if_pos hc8] at h;have t9 := eq_true hc8;apply zd;apply hZ7;apply ze;have f10 := xw (T := tab) (src := 3) (dst := 184) rfl rfl rfl;have f11 := xw (T := tab) (src := 184) (dst := 3) rfl rfl rfl
   refine rg tok [0, 1, 2, 8, 9, 10, 11] fun K hK => ?_
   simp only [go_sem, qc, qa, reduceCtorEq, t9, f10, f11, Yw, Int.reduceLT];apply hK
   refine rc [0, 1, 2, 8, 9, 10, 11, 31] fun K hK => ?_
   obtain ⟨y12, hy12, h⟩ := bind_some h;have f13 := E27.idxS hy12;have f14 := E27.loadS rfl rfl hy12;obtain ⟨r15, hr15, h⟩ := zS h;refine zj tok 6 ?_;simp only [go_sem, qc, qa, reduceCtorEq, cellsGEntry, z7, f13, f14];refine clN rfl rfl rfl (xP.ev y12 a1 r15 hr15 _) ?_;refine rnN 1 ?_;refine nkN hK ?_;refine zx rfl (fun hc16 => ?_) (fun hc16 => ?_)
   · rw [if_pos hc16] at h;have t17 := eq_true hc16
     refine rgE tok [0, 1, 2, 8, 9, 10] fun K hK => ?_
     simp only [go_sem, qc, qa, reduceCtorEq, t17];apply hK
     exact ⟨_, _, _, qr (0 + k6), ⟨k6, IntKind.i64.wrap ((IntKind.i64.wrap (Int.fdiv (IntKind.u64.wrap (IntKind.i64.wrap (x2 + x3))) (2 ^ (min (qI 1) 64)))) + 1), x3, rfl, rfl, rfl, h⟩, .s⟩
   rw [if_neg hc16] at h;have t18 := eq_false hc16
   refine rgE tok [0, 1, 2, 8, 9, 10] fun K hK => ?_
   simp only [go_sem, qc, qa, reduceCtorEq, t18];apply hK
   exact ⟨_, _, _, qr (0 + k6), ⟨k6, x2, IntKind.i64.wrap (Int.fdiv (IntKind.u64.wrap (IntKind.i64.wrap (x2 + x3))) (2 ^ (min (qI 1) 64))), rfl, rfl, rfl, h⟩, .s⟩
 rw [if_neg hc8] at h;have t19 := eq_false hc8;apply zv;apply hZ1
 refine rc [6, 7] fun K hK => ?_
 refine zj tok 5 ?_;simp only [go_sem, qc, qa, reduceCtorEq, t19];obtain ⟨c20, hc20, h⟩ := bind_some h;refine zh 9 (fun L τ => L = [(35, .int .i64 x2), (48, .bool c20)] ∧ τ = []) ?_ ?_
 · refine yA 39 rfl (fun hg39 => ?_) (fun hg39 => ?_)
   · have t21 := eq_true hg39;rw [if_pos hg39] at hc20;obtain ⟨y22, hy22, hc20⟩ := bind_some hc20;have f23 := E27.idxS hy22;have f24 := E27.loadS rfl rfl hy22;obtain ⟨r25, hr25, hc20⟩ := zS hc20;refine zj tok 6 ?_;simp only [go_sem, qc, qa, reduceCtorEq, cellsGEntry, z7, f23, f24];refine clN rfl rfl rfl (xP.ev y22 a1 r25 hr25 _) ?_;refine rnN 2 ?_;cases hc20;refine zb ⟨rfl, _, _, ⟨rfl, rfl⟩, .p t21⟩
   have t26 := eq_false hg39;rw [if_neg hg39] at hc20;refine rnN 9 ?_;cases hc20;refine zb ⟨rfl, _, _, ⟨rfl, rfl⟩, .p t26⟩
 rintro _ _ ⟨rfl, rfl⟩;refine rnN 2 ?_;refine nkN hK ?_;cases h;exact rtA
def xO (a0 : GTree) : Bool :=
 ((((((decide (1 ≤ a0.fKind)) && (decide (a0.fKind ≤ 3))) && (decide (a0.fN = 0))) && (decide (a0.fS = []))) && (decide ((qb a0.fEntries : Int) = 0))) && (decide ((qb a0.fRest : Int) = 0)))
theorem xO.ok (a0 : GTree) (r : Bool) (h : xO a0 = r) : ACalls qh 70 [.agg (cellsGTree a0)] [] (fun r' _ => r' = .bool r) := by
 refine zf (rs := [.tmp 2]) tok Tryz.func70 rfl Tryz.ntmps70 rfl Tryz.call70 (by simp) ?_;refine zl [(0, .agg (cellsGTree a0))] ⟨rfl, trivial⟩ ?_;unfold xO at h
 refine rg tok [1] fun K hK => ?_
 simp only [go_sem, qc, qa, qd, reduceCtorEq, cellsGTree];apply hK
 refine rc [2] fun K hK => ?_
 refine rnN 4 ?_;refine zh 4 (fun L τ => L = [(1, .op 0 0 0), (10, .bool ((decide (1 ≤ a0.fKind)) && (decide (a0.fKind ≤ 3))))] ∧ τ = [.cells 0 (cellsGTree a0)]) ?_ ?_
 · refine yA 6 rfl (fun hg6 => ?_) (fun hg6 => ?_)
   · have t1 := eq_true hg6;refine rnN 4 ?_;refine zb ⟨rfl, _, _, ⟨rfl, rfl⟩, .p t1⟩
   have t2 := eq_false hg6;refine rnN 4 ?_;refine zb ⟨rfl, _, _, ⟨rfl, rfl⟩, .p t2⟩
 rintro _ _ ⟨rfl, rfl⟩;refine rnN 1 ?_;refine zh 4 (fun L τ => L = [(1, .op 0 0 0), (15, .bool (((decide (1 ≤ a0.fKind)) && (decide (a0.fKind ≤ 3))) && (decide (a0.fN = 0))))] ∧ τ = [.cells 0 (cellsGTree a0)]) ?_ ?_
 · refine zI (b := ((decide (1 ≤ a0.fKind)) && (decide (a0.fKind ≤ 3)))) 11 rfl (fun hg11 => ?_) (fun hg11 => ?_)
   · refine rnN 4 ?_;refine zb ⟨rfl, _, _, ⟨rfl, rfl⟩, .b hg11⟩
   refine rnN 4 ?_;refine zb ⟨rfl, _, _, ⟨rfl, rfl⟩, .b hg11⟩
 rintro _ _ ⟨rfl, rfl⟩;refine rnN 1 ?_;refine zh 4 (fun L τ => L = [(1, .op 0 0 0), (20, .bool ((((decide (1 ≤ a0.fKind)) && (decide (a0.fKind ≤ 3))) && (decide (a0.fN = 0))) && (decide (a0.fS = []))))] ∧ τ = [.cells 0 (cellsGTree a0)]) ?_ ?_
 · refine zI (b := (((decide (1 ≤ a0.fKind)) && (decide (a0.fKind ≤ 3))) && (decide (a0.fN = 0)))) 16 rfl (fun hg16 => ?_) (fun hg16 => ?_)
   · refine rnN 4 ?_;refine zb ⟨rfl, _, _, ⟨rfl, rfl⟩, .b hg16⟩
   refine rnN 4 ?_;refine zb ⟨rfl, _, _, ⟨rfl, rfl⟩, .b hg16⟩
 rintro _ _ ⟨rfl, rfl⟩;refine rnN 1 ?_;refine zh 5 (fun L τ => L = [(1, .op 0 0 0), (26, .bool (((((decide (1 ≤ a0.fKind)) && (decide (a0.fKind ≤ 3))) && (decide (a0.fN = 0))) && (decide (a0.fS = []))) && (decide ((qb a0.fEntries : Int) = 0))))] ∧ τ = [.cells 0 (cellsGTree a0)]) ?_ ?_
 · refine zI (b := ((((decide (1 ≤ a0.fKind)) && (decide (a0.fKind ≤ 3))) && (decide (a0.fN = 0))) && (decide (a0.fS = [])))) 21 rfl (fun hg21 => ?_) (fun hg21 => ?_)
   · refine rnN 5 ?_;refine zb ⟨rfl, _, _, ⟨rfl, rfl⟩, .b hg21⟩
   refine rnN 5 ?_;refine zb ⟨rfl, _, _, ⟨rfl, rfl⟩, .b hg21⟩
 rintro _ _ ⟨rfl, rfl⟩;refine rnN 1 ?_;refine zh 5 (fun L τ => L = [(32, .bool ((((((decide (1 ≤ a0.fKind)) && (decide (a0.fKind ≤ 3))) && (decide (a0.fN = 0))) && (decide (a0.fS = []))) && (decide ((qb a0.fEntries : Int) = 0))) && (decide ((qb a0.fRest : Int) = 0))))] ∧ τ = [.cells 0 (cellsGTree a0)]) ?_ ?_
 · refine zI (b := (((((decide (1 ≤ a0.fKind)) && (decide (a0.fKind ≤ 3))) && (decide (a0.fN = 0))) && (decide (a0.fS = []))) && (decide ((qb a0.fEntries : Int) = 0)))) 27 rfl (fun hg27 => ?_) (fun hg27 => ?_)
   · refine rnN 5 ?_;refine zb ⟨rfl, _, _, ⟨rfl, rfl⟩, .b hg27⟩
   refine rnN 5 ?_;refine zb ⟨rfl, _, _, ⟨rfl, rfl⟩, .b hg27⟩
 rintro _ _ ⟨rfl, rfl⟩;refine rnN 1 ?_;refine nkN hK ?_;cases h;exact rtA
theorem xO.ev (a0 : GTree) (r : Bool) (h : xO a0 = r) (σ : Store) : ACalls qh 70 [.agg (cellsGTree a0)] σ (fun r' σ' => r' = .bool r ∧ σ' = σ) :=
 (xO.ok a0 r h).c σ
def xh (a0 : GEntry) (a1 : GMessage) : Option Bool :=
 bnd (zi a1 a0.fTag) fun r1 => (if r1.1.fLabel = 1 then (wV a0.fTrees 0).bind fun y2 => bnd (xO y2) fun r5 => some r5 else some false).bind fun c2 => some c2
theorem xh.ok (a0 : GEntry) (a1 : GMessage) (r : Bool) (h : xh a0 a1 = some r) : ACalls qh 69 [.agg (cellsGEntry a0), .dp (encGMessage a1) 0] [] (fun r' _ => r' = .bool r) := by
 refine zf (rs := [.tmp 3]) tok Tryz.func69 rfl Tryz.ntmps69 rfl Tryz.call69 (by simp) ?_;refine zl [(0, .agg (cellsGEntry a0)), (1, .dp (encGMessage a1) 0)] ⟨rfl, rfl, trivial⟩ ?_;unfold xh at h
 refine rg tok [1, 2] fun K hK => ?_
 simp only [go_sem, qc, qa, qd, reduceCtorEq, cellsGEntry];apply hK
 refine rc [2, 4] fun K hK => ?_
 obtain ⟨r1, hr1, h⟩ := zS h;refine zj tok 3 ?_;simp only [go_sem, qc, qf, qa, qd, encGMessage, vab];refine clN rfl rfl rfl (zi.ev a1 a0.fTag r1 hr1 _) ?_;refine zj tok 6 ?_;simp only [go_sem, qc, qf, qa, qd, encGField];refine nkN hK ?_
 refine rc [3] fun K hK => ?_
 refine rnN 4 ?_;obtain ⟨c2, hc2, h⟩ := bind_some h;refine zh 6 (fun L τ => L = [(22, .bool c2)] ∧ τ = [.cells 0 (cellsGEntry a0), .cells 0 (encGField r1.1)]) ?_ ?_
 · refine yA 16 rfl (fun hg16 => ?_) (fun hg16 => ?_)
   · have t3 := eq_true hg16;rw [if_pos hg16] at hc2;obtain ⟨y4, hy4, hc2⟩ := bind_some hc2;have f5 := E90.idxS hy4;have f6 := E90.loadS rfl rfl hy4;obtain ⟨r7, hr7, hc2⟩ := zS hc2;refine zj tok 4 ?_;simp only [go_sem, qc, qa, qd, cellsGTree, yh, f5, f6];refine clN rfl rfl rfl (xO.ev y4 r7 hr7 _) ?_;refine rnN 1 ?_;cases hc2;refine zb ⟨rfl, _, _, ⟨rfl, rfl⟩, .p t3⟩
   have t8 := eq_false hg16;rw [if_neg hg16] at hc2;refine rnN 6 ?_;cases hc2;refine zb ⟨rfl, _, _, ⟨rfl, rfl⟩, .p t8⟩
 rintro _ _ ⟨rfl, rfl⟩;refine rnN 1 ?_;refine nkN hK ?_;cases h;exact rtA
theorem xh.ev (a0 : GEntry) (a1 : GMessage) (r : Bool) (h : xh a0 a1 = some r) (σ : Store) : ACalls qh 69 [.agg (cellsGEntry a0), .dp (encGMessage a1) 0] σ (fun r' σ' => r' = .bool r ∧ σ' = σ) :=
 (xh.ok a0 a1 r h).c σ
def zt.l4 (a1_0 : GMessage) : List GEntry → Int → Option Int
 | [], x2 => some (-1)
 | y4 :: q4, x2 => (xh y4 a1_0).bind fun r10 => (if r10 = true then some x2 else ((zt.l4 a1_0 q4) (x2 + 1)))
def zt (a0 : List GEntry) (a1_0 : GMessage) : Option Int :=
 (zt.l4 a1_0 a0 0)
theorem zt.ok (a0 : List GEntry) (a1_0 : GMessage) (r : Int) (h : zt a0 a1_0 = some r) : ACalls qh 114 [.ds true (qe encGEntry a0) (qb a0) false, .fn (.func 69) [] [.dp (encGMessage a1_0) 0]] [] (fun r' _ => r' = .int .i64 r) := by
 refine zf (rs := [.tmp 4]) tok Tryz.func114 rfl Tryz.ntmps114 rfl Tryz.call114 (by simp) ?_;refine zl [(0, .ds true (qe encGEntry a0) (qb a0) false), (1, .fn (.func 69) [] [.dp (encGMessage a1_0) 0])] ⟨rfl, rfl, trivial⟩ ?_;unfold zt at h;refine rgN [0, 1] ?_
 refine za fun Z1 hZ1 => ?_
 refine rgN [0, 1, 7, 8] ?_;apply ze
 refine yP 0 fun hb4 => ?_
 replace hb4 : qb a0 ≤ 9223372036854775807 := hb4.1;refine zq (fun m L τ => ∃ (p4 q4 : List GEntry) (x2 : Int), m = qb q4 ∧ L = [(0, .ds true (qe encGEntry a0) (qb a0) false), (1, .fn (.func 69) [] [.dp (encGMessage a1_0) 0]), (7, .int .i64 (qb a0 : Int)), (8, .int .i64 x2)] ∧ τ = [] ∧ a0 = p4 ++ q4 ∧ x2 = (qb p4 : Int) ∧ zt.l4 a1_0 q4 x2 = some r) _ ⟨[], a0, 0, rfl, rfl, rfl, rfl, rfl, h⟩ .s ?_;rintro m L τ ⟨p4, q4, x2, rfl, rfl, rfl, hE4, hi4, h⟩
 rcases q4 with _ | ⟨y4, q4⟩
 · have hz4 := yl hE4 hi4;simp only [zt.l4] at h
   refine rg tok [0, 1, 7, 8, 9] fun K hK => ?_
   simp only [go_sem, qc, qa, reduceCtorEq, hz4];apply hK
   refine za fun Z5 hZ5 => ?_
   refine zm rfl ?_;apply zv;apply hZ1;refine rgN [4] ?_;cases h;exact rtA
 obtain ⟨hz4, hw4, hx4, hE'4, hi'4⟩ := zW hE4 hi4 hb4;simp only [zt.l4] at h
 refine rg tok [0, 1, 7, 8, 9] fun K hK => ?_
 simp only [go_sem, qc, qa, reduceCtorEq, hz4];apply hK
 refine za fun Z6 hZ6 => ?_
 refine zp rfl ?_;apply zd;apply hZ6
 refine za fun Z7 hZ7 => ?_
 apply ze;refine rgN [0, 1, 5, 7, 8] ?_
 refine rc [0, 1, 5, 7, 8, 16] fun K hK => ?_
 have f8 := E27.idxS hx4;have f9 := E27.loadS rfl rfl hx4;obtain ⟨r10, hr10, h⟩ := bind_some h;refine zj tok 5 ?_;simp only [go_sem, qc, qa, reduceCtorEq, cellsGEntry, z7, f8, f9];refine clN rfl rfl rfl (xh.ev y4 a1_0 r10 hr10 _) ?_;refine nkN hK ?_;refine zn (b := r10) rfl (fun hc11 => ?_) (fun hc11 => ?_)
 · rw [if_pos hc11] at h;refine rgN [4] ?_;cases h;exact rtA
 rw [xN hc11] at h;apply zd;apply hZ7
 refine rgE tok [0, 1, 7, 8] fun K hK => ?_
 simp only [go_sem, qc, qa, reduceCtorEq, hw4];apply hK
 exact ⟨_, _, _, qr q4.length, ⟨p4 ++ [y4], q4, x2 + 1, rfl, rfl, rfl, hE'4, hi'4, h⟩, .s⟩
def zN.j20 (x5 : Int) (l4 : List GRaw) (rec8 : Int → List GRaw → Option (List GRaw)) (y8 : GRaw) (x15 : Int) (rec17 : Int → Option (List GRaw)) (x19 : Bool) : Option (List GRaw) :=
 (if x19 = true then (rec17 (IntKind.i64.wrap (x15 - 1))) else (grd ((0 : Int) ≤ IntKind.i64.wrap (x15 + 1) ∧ IntKind.i64.wrap (x15 + 1) ≤ x5 + 1 ∧ x5 + 1 ≤ (qb l4 : Int))).bind fun _u22 => (grd ((0 : Int) ≤ x15 ∧ x15 ≤ x5 ∧ x5 ≤ (qb l4 : Int))).bind fun _u24 => (wV (XG l4 (qI (IntKind.i64.wrap (x15 + 1))) (qI x15) (min (qI x5 - qI x15) (qI (x5 + 1) - qI (IntKind.i64.wrap (x15 + 1))))) x15).bind fun y28 => (rec8 (x5 + 1) (setI (XG l4 (qI (IntKind.i64.wrap (x15 + 1))) (qI x15) (min (qI x5 - qI x15) (qI (x5 + 1) - qI (IntKind.i64.wrap (x15 + 1))))) x15 y8)))
def zN.l17 (x5 : Int) (l4 : List GRaw) (rec8 : Int → List GRaw → Option (List GRaw)) (y8 : GRaw) : Nat → Int → Option (List GRaw)
 | 0, _ => none
 | k17 + 1, x15 => (if 0 < x15 then (wV l4 (IntKind.i64.wrap (x15 - 1))).bind fun y33 => (zN.j20 x5 l4 rec8 y8 x15 (zN.l17 x5 l4 rec8 y8 k17) (decide (y8.fTag < y33.fTag))) else (zN.j20 x5 l4 rec8 y8 x15 (zN.l17 x5 l4 rec8 y8 k17) false))
def zN.l8 : List GRaw → Int → List GRaw → Option (List GRaw)
 | [], x5, l4 => some l4
 | y8 :: q8, x5, l4 => (zN.l17 x5 l4 (zN.l8 q8) y8 rounds x5)
def zN (a0 : List GRaw) : Option (List GRaw) :=
 (grd ((0 : Int) ≤ (qb a0 : Int) ∧ (40 : Int) * (qb a0 : Int) ≤ 281474976710656 ∧ (qb a0 : Int) < 9223372036854775807)).bind fun _u1 => (zN.l8 a0 0 (qP (qI (qb a0 : Int)) ((⟨0, 0, 0, []⟩ : GRaw) : GRaw)))
theorem zN.ok (a0 : List GRaw) (r : List GRaw) (h : zN a0 = some r) : ACalls qh 71 [.ds true (qe encGRaw a0) (qb a0) false] [] (fun r' _ => r' = .ds true (qe encGRaw r) (qb r) false) := by
 refine zf (rs := [.tmp 2]) tok Tryz.func71 rfl Tryz.ntmps71 rfl Tryz.call71 (by simp) ?_;refine zl [(0, .ds true (qe encGRaw a0) (qb a0) false)] ⟨rfl, trivial⟩ ?_;unfold zN at h;refine rgN [0] ?_;obtain ⟨_u1, hu1, h⟩ := bind_some h;have gu1 := wN hu1;have f2 := E28.mk0 rfl (z := ((⟨0, 0, 0, []⟩ : GRaw) : GRaw)) rfl rfl gu1 .i64 .i64
 refine rg tok [0, 3] fun K hK => ?_
 simp only [go_sem, qc, qa, reduceCtorEq, f2];apply hK
 refine zU (L := [(0, .ds true (qe encGRaw a0) (qb a0) false), (3, .os true 4 0 0 0 (qb (qP (qI (qb a0 : Int)) ((⟨0, 0, 0, []⟩ : GRaw) : GRaw))) true)]) (τ := [.cells 0 (qe encGRaw (qP (qI (qb a0 : Int)) ((⟨0, 0, 0, []⟩ : GRaw) : GRaw)))]) .s ?_
 refine za fun Z3 hZ3 => ?_
 refine rgN [3, 10, 11, 12] ?_;apply ze
 refine yP 10 fun hb8 => ?_
 replace hb8 : qb a0 ≤ 9223372036854775807 := hb8.1;refine zq (fun m L τ => ∃ (p8 q8 : List GRaw) (x5 : Int) (l4 : List GRaw), m = qb q8 ∧ L = [(3, .os true 4 0 0 0 (qb l4) true), (10, .ds true (qe encGRaw a0) (qb a0) false), (11, .int .i64 (qb a0 : Int)), (12, .int .i64 x5)] ∧ τ = [.cells 0 (qe encGRaw l4)] ∧ a0 = p8 ++ q8 ∧ x5 = (qb p8 : Int) ∧ zN.l8 q8 x5 l4 = some r) _ ⟨[], a0, 0, qP (qI (qb a0 : Int)) ((⟨0, 0, 0, []⟩ : GRaw) : GRaw), rfl, rfl, rfl, rfl, rfl, h⟩ .s ?_;rintro m L τ ⟨p8, q8, x5, l4, rfl, rfl, rfl, hE8, hi8, h⟩
 rcases q8 with _ | ⟨y8, q8⟩
 · have hz8 := yl hE8 hi8;simp only [zN.l8] at h
   refine rg tok [3, 10, 11, 12, 13] fun K hK => ?_
   simp only [go_sem, qc, qa, hz8];apply hK
   refine za fun Z9 hZ9 => ?_
   refine zm rfl ?_;apply zv;apply hZ3;refine rgN [2] ?_;cases h;exact rtA
 obtain ⟨hz8, hw8, hx8, hE'8, hi'8⟩ := zW hE8 hi8 hb8;simp only [zN.l8] at h
 refine rg tok [3, 10, 11, 12, 13] fun K hK => ?_
 simp only [go_sem, qc, qa, hz8];apply hK
 refine za fun Z10 hZ10 => ?_
 refine zp rfl ?_;apply zd;apply hZ10
 refine za fun Z11 hZ11 => ?_
 apply ze;have f12 := E28.idxS hx8;have f13 := E28.loadS rfl rfl hx8
 refine rg tok [3, 4, 5, 10, 11, 12] fun K hK => ?_
 simp only [go_sem, qc, qf, qa, qd, encGRaw, f12, f13];apply hK
 refine rgN [3, 4, 5, 6, 10, 11, 12] ?_
 refine za fun Z14 hZ14 => ?_
 apply ze;refine zq (fun m L τ => ∃ (k17 : Nat) (x15 : Int), m = 0 + k17 ∧ L = [(3, .os true 4 0 0 0 (qb l4) true), (4, .int .i64 x5), (5, .op 1 0 0), (6, .int .i64 x15), (10, .ds true (qe encGRaw a0) (qb a0) false), (11, .int .i64 (qb a0 : Int)), (12, .int .i64 x5)] ∧ τ = [.cells 0 (qe encGRaw l4), .cells 0 [.int .i64 y8.fTag, .int .i64 y8.fWire, .int .i64 y8.fN, .str y8.fB]] ∧ zN.l17 x5 l4 (zN.l8 q8) y8 k17 x15 = some r) _ ⟨rounds, x5, rfl, rfl, rfl, h⟩ .s ?_;rintro m L τ ⟨k17, x15, rfl, rfl, rfl, h⟩
 rcases k17 with _ | k17
 · cases h
 simp only [zN.l17] at h
 refine za fun Z18 hZ18 => ?_
 refine xy (fun L τ => ∃ (x19 : Bool), L = [(3, .os true 4 0 0 0 (qb l4) true), (4, .int .i64 x5), (5, .op 1 0 0), (6, .int .i64 x15), (10, .ds true (qe encGRaw a0) (qb a0) false), (11, .int .i64 (qb a0 : Int)), (12, .int .i64 x5), (30, .bool x19)] ∧ τ = [.cells 0 (qe encGRaw l4), .cells 0 [.int .i64 y8.fTag, .int .i64 y8.fWire, .int .i64 y8.fN, .str y8.fB]] ∧ zN.j20 x5 l4 (zN.l8 q8) y8 x15 (zN.l17 x5 l4 (zN.l8 q8) y8 k17) x19 = some r) ?_ ?_
 · refine rdE [3, 4, 5, 6, 10, 11, 12, 30] fun K hK => ?_
   refine DW.start (T := tab) [.any, .any, .any, .any, .any, .any, .any, .any, .at [], .any, .at [], .any, .any] [] ?_;refine DW.runN tok 3 ?_;simp only [go_sem, qc, qa]
   refine DW.if 20 rfl (fun hg20 => ?_) (fun hg20 => ?_)
   · rw [if_pos hg20] at h;have t32 := eq_true hg20;obtain ⟨y33, hy33, h⟩ := bind_some h;have f34 := E28.idxO hy33;have f35 := E28.rdfO0 hy33;refine DW.runN tok 8 ?_;simp only [go_sem, qc, qa, qd, encGRaw, t32, f34, f35];refine DW.runN tok 2 ?_;simp only [go_sem, qc, qa];refine DW.fin tok (by decide +kernel) rfl ?_;simp only [zo, upd, qa, reduceIte, yG, xr];apply hK
     exact ⟨_, _, ⟨decide (y8.fTag < y33.fTag), rfl, rfl, h⟩, .s⟩
   rw [if_neg hg20] at h;have t36 := eq_false hg20;refine DW.runN tok 8 ?_;simp only [go_sem, qc, qa, t36];refine DW.runN tok 2 ?_;simp only [go_sem, qc, qa];refine DW.fin tok (by decide +kernel) rfl ?_;simp only [zo, upd, qa, reduceIte, yG, xr];apply hK
   exact ⟨_, _, ⟨false, rfl, rfl, h⟩, .s⟩
 rintro _ _ ⟨x19, rfl, rfl, h⟩;unfold zN.j20 at h;refine zn (b := x19) rfl (fun hc21 => ?_) (fun hc21 => ?_)
 · rw [if_pos hc21] at h;apply zd;apply hZ18;apply ze
   refine rgE tok [3, 4, 5, 6, 10, 11, 12] fun K hK => ?_
   simp only [go_sem, qc, qa];apply hK
   exact ⟨_, _, _, qr (0 + k17), ⟨k17, IntKind.i64.wrap (x15 - 1), rfl, rfl, rfl, h⟩, .s⟩
 rw [xN hc21] at h;apply zv;apply hZ14;obtain ⟨_u22, hu22, h⟩ := bind_some h;have gu22 := wN hu22
 have f23 := fun id ver => E28.slO gu22 .i64 .i64 id ver true
 obtain ⟨_u24, hu24, h⟩ := bind_some h;have gu24 := wN hu24
 have f25 := fun id ver => E28.slO gu24 .i64 .i64 id ver true
 have f26 := fun (τ : Store) (t1 t2 : Bool) => E28.cpO vce.h gu22 gu24 t1 t2 (.cells 0 (qe encGRaw l4) :: τ) 0 0 (by simp only [Store.at_hd, if_true]) rfl
 have f27 : qb (XG l4 (qI (IntKind.i64.wrap (x15 + 1))) (qI x15) (min (qI x5 - qI x15) (qI (x5 + 1) - qI (IntKind.i64.wrap (x15 + 1))))) = qb l4 := copyI_length (by omega) (by omega)
 refine rd [3, 5, 6, 10, 11, 12] fun K hK => ?_
 refine DW.start (T := tab) [.any, .any, .any, .any, .any, .any, .any, .any, .any, .any, .eff] [] ?_;refine DW.runN tok 8 ?_;simp only [go_sem, qc, qa, hw8, f23];refine DW.runN tok 3 ?_;simp only [go_sem, qc, qa, f25, f26];refine DW.fin tok (by decide +kernel) rfl ?_;simp only [zo, upd, qa, reduceIte, yG, xr];apply hK
 refine zU (L := [(3, .os true 4 0 0 0 (qb (XG l4 (qI (IntKind.i64.wrap (x15 + 1))) (qI x15) (min (qI x5 - qI x15) (qI (x5 + 1) - qI (IntKind.i64.wrap (x15 + 1)))))) true), (5, .op 1 0 0), (6, .int .i64 x15), (10, .ds true (qe encGRaw a0) (qb a0) false), (11, .int .i64 (qb a0 : Int)), (12, .int .i64 x5)]) (τ := [.cells 0 (qe encGRaw (XG l4 (qI (IntKind.i64.wrap (x15 + 1))) (qI x15) (min (qI x5 - qI x15) (qI (x5 + 1) - qI (IntKind.i64.wrap (x15 + 1)))))), .cells 0 [.int .i64 y8.fTag, .int .i64 y8.fWire, .int .i64 y8.fN, .str y8.fB]]) (.same (by first | exact ⟨rfl, rfl, rfl, rfl, rfl, rfl, trivial⟩ | rfl | (simp only [go_sem, qa, Fits, f27, and_self] <;> rfl)) (by first | exact ⟨rfl, rfl, rfl, rfl, rfl, rfl, trivial⟩ | rfl | (simp only [go_sem, qc, qf, qa, qd, qq, qC, reduceIte, reduceCtorEq, Fits, encB, encI, encS, va6, wH, qV, qT, ud, qB, qz, qi, qj, ql, qm, qp, qE, uR, encGRaw, f27, and_self] <;> rfl))) ?_;obtain ⟨y28, hy28, h⟩ := bind_some h;have f29 := E28.idxO hy28;have f30 := E28.stOc hy28;have f31 := E28.stOr hy28 (y := y8) (cs := [.int .i64 y8.fTag, .int .i64 y8.fWire, .int .i64 y8.fN, .str y8.fB]) rfl;simp only [yX] at f31
 refine rgE tok [3, 10, 11, 12] fun K hK => ?_
 simp only [go_sem, qc, qf, qa, qd, f29, f30, f31];apply hK
 apply hZ11
 refine rgE tok [3, 10, 11, 12] fun K hK => ?_
 simp only [go_sem, qc, qa, hw8];apply hK
 exact ⟨_, _, _, qr q8.length, ⟨p8 ++ [y8], q8, x5 + 1, setI (XG l4 (qI (IntKind.i64.wrap (x15 + 1))) (qI x15) (min (qI x5 - qI x15) (qI (x5 + 1) - qI (IntKind.i64.wrap (x15 + 1))))) x15 y8, rfl, rfl, rfl, hE'8, hi'8, h⟩, (.t [0] false)⟩
theorem zN.ev (a0 : List GRaw) (r : List GRaw) (h : zN a0 = some r) (σ : Store) : ACalls qh 71 [.ds true (qe encGRaw a0) (qb a0) false] σ (fun r' σ' => r' = .ds true (qe encGRaw r) (qb r) false ∧ σ' = σ) :=
 (zN.ok a0 r h).c σ
def zQ.j4 (m4_1 : GTree) : Option (GTree × Int) :=
 some (m4_1, 0)
def zQ.j6 (zC : GSchema → GMessage → (List UInt8) → Int → Option (GTree × Int)) (a0 : GSchema) (a1 : GType) (a2 : GRaw) (a3 : Int) (m4_1 : GTree) (x5 : Bool) : Option (GTree × Int) :=
 (if x5 = true then bnd (xB a1 a2.fN) fun r8 => (if (!r8) = true then some ((⟨0, 0, [], ([] : List GEntry), ([] : List GRaw)⟩ : GTree), 11) else (zQ.j4 m4_1)) else (if a1.fKind = 4 then (yE a2.fB).bind fun r12 => (if (!r12) = true then some ((⟨0, 0, [], ([] : List GEntry), ([] : List GRaw)⟩ : GTree), 9) else (zQ.j4 m4_1)) else (if a1.fKind = 7 then bnd (zD a0 a1.fName) fun r17 => (grd (qb a2.fB ≤ 9223372036854775807)).bind fun _u18 => (zC a0 r17.1 a2.fB (IntKind.i64.wrap (a3 + 1))).bind fun r20 => some (r20.1, r20.2) else (zQ.j4 m4_1))))
def zQ.j3 (zC : GSchema → GMessage → (List UInt8) → Int → Option (GTree × Int)) (a0 : GSchema) (a1 : GType) (a2 : GRaw) (a3 : Int) (m4_1 : GTree) : Option (GTree × Int) :=
 (if a1.fKind = 3 then (zQ.j6 zC a0 a1 a2 a3 m4_1 (decide (a1.fKind = 3))) else (zQ.j6 zC a0 a1 a2 a3 m4_1 (decide (a1.fKind = 6))))
def zQ.j26 (zC : GSchema → GMessage → (List UInt8) → Int → Option (GTree × Int)) (a0 : GSchema) (a1 : GType) (a2 : GRaw) (a3 : Int) (m4_1 : GTree) (x25 : Bool) : Option (GTree × Int) :=
 (if x25 = true then (if a2.fWire = 1 then (zQ.j3 zC a0 a1 a2 a3 m4_1) else some ((⟨0, 0, [], ([] : List GEntry), ([] : List GRaw)⟩ : GTree), 8)) else (if a2.fWire = 0 then (zQ.j3 zC a0 a1 a2 a3 m4_1) else some ((⟨0, 0, [], ([] : List GEntry), ([] : List GRaw)⟩ : GTree), 8)))
def zQ.j2 (zC : GSchema → GMessage → (List UInt8) → Int → Option (GTree × Int)) (a0 : GSchema) (a1 : GType) (a2 : GRaw) (a3 : Int) (m4_1 : GTree) : Option (GTree × Int) :=
 (if a1.fKind = 4 then (zQ.j26 zC a0 a1 a2 a3 m4_1 (decide (a1.fKind = 4))) else (if a1.fKind = 5 then (zQ.j26 zC a0 a1 a2 a3 m4_1 (decide (a1.fKind = 5))) else (zQ.j26 zC a0 a1 a2 a3 m4_1 (decide (a1.fKind = 7)))))
def zQ.body (zC : GSchema → GMessage → (List UInt8) → Int → Option (GTree × Int)) (yO : GSchema → GType → GRaw → Int → Option (GTree × Int)) (a0 : GSchema) (a1 : GType) (a2 : GRaw) (a3 : Int) : Option (GTree × Int) :=
 (if a2.fWire = 1 then (zQ.j2 zC a0 a1 a2 a3 (⟨2, 0, a2.fB, ([] : List GEntry), ([] : List GRaw)⟩ : GTree)) else (zQ.j2 zC a0 a1 a2 a3 (⟨1, a2.fN, [], ([] : List GEntry), ([] : List GRaw)⟩ : GTree)))
theorem zQ.step (zC : GSchema → GMessage → (List UInt8) → Int → Option (GTree × Int)) (yO : GSchema → GType → GRaw → Int → Option (GTree × Int)) (vaC : ∀ (a0 : GSchema) (a1 : GMessage) (a2 : List UInt8) (a3 : Int) (r : GTree × Int), zC a0 a1 a2 a3 = some r → ACalls qh 41 [.agg (encGSchema a0), .agg (encGMessage a1), .ds true (qe encB a2) (qb a2) false, .int .i64 a3] [] (fun r' _ => r' = .tup [.agg (cellsGTree r.1), .int .i64 r.2])) (Y3 : ∀ (a0 : GSchema) (a1 : GType) (a2 : GRaw) (a3 : Int) (r : GTree × Int), yO a0 a1 a2 a3 = some r → ACalls qh 66 [.agg (encGSchema a0), .agg (encGType a1), .agg (encGRaw a2), .int .i64 a3] [] (fun r' _ => r' = .tup [.agg (cellsGTree r.1), .int .i64 r.2])) (a0 : GSchema) (a1 : GType) (a2 : GRaw) (a3 : Int) (r : GTree × Int) (h : zQ.body zC yO a0 a1 a2 a3 = some r) : ACalls qh 66 [.agg (encGSchema a0), .agg (encGType a1), .agg (encGRaw a2), .int .i64 a3] [] (fun r' _ => r' = .tup [.agg (cellsGTree r.1), .int .i64 r.2]) := by
 have ev_decode_message := fun a0 a1 a2 a3 r h σ => (vaC a0 a1 a2 a3 r h).c σ
 have ev_decode_one := fun a0 a1 a2 a3 r h σ => (Y3 a0 a1 a2 a3 r h).c σ
 refine zf (rs := [.cell 8 30, .tmp 9]) tok Tryz.func66 rfl Tryz.ntmps66 rfl Tryz.call66 (by simp) ?_;refine zl [(0, .agg (encGSchema a0)), (1, .agg (encGType a1)), (2, .agg (encGRaw a2)), (3, .int .i64 a3)] ⟨rfl, rfl, rfl, rfl, trivial⟩ ?_;unfold zQ.body at h
 refine rg tok [3, 4, 5, 6, 8] fun K hK => ?_
 simp only [go_sem, qc, qa, qd, reduceCtorEq, encGRaw, encGSchema, encGType];apply hK
 refine rgN [3, 4, 5, 6, 8, 10] ?_;refine xy (fun L τ => ∃ (m4_1 : GTree), L = [(3, .int .i64 a3), (4, .op 0 0 0), (5, .op 1 0 0), (6, .op 2 0 0), (8, .op 3 0 0), (10, .op 4 0 0)] ∧ τ = [.cells 0 (encGSchema a0), .cells 0 [.int .i64 a1.fKind, .str a1.fName], .cells 0 [.int .i64 a2.fTag, .int .i64 a2.fWire, .int .i64 a2.fN, .str a2.fB], .cells 0 [.int .i64 0, .int .i64 0, .str [], .ds true (qe encGEntry ([] : List GEntry)) (qb ([] : List GEntry)) false, .ds true (qe encGRaw ([] : List GRaw)) (qb ([] : List GRaw)) false], .cells 0 (cellsGTree m4_1)] ∧ zQ.j2 zC a0 a1 a2 a3 m4_1 = some r) ?_ ?_
 · refine rgN [3, 4, 5, 6, 8, 10, 18] ?_;refine zx rfl (fun hc40 => ?_) (fun hc40 => ?_)
   · rw [if_pos hc40] at h;have t41 := eq_true hc40
     refine rgE tok [3, 4, 5, 6, 8, 10] fun K hK => ?_
     simp only [go_sem, qc, qf, qa, qd, t41];apply hK
     exact ⟨_, _, ⟨(⟨2, 0, a2.fB, ([] : List GEntry), ([] : List GRaw)⟩ : GTree), rfl, rfl, h⟩, (.t [0, 1, 2, 3, 4] true)⟩
   rw [if_neg hc40] at h;have t42 := eq_false hc40;apply zd;exact ⟨_, _, ⟨(⟨1, a2.fN, [], ([] : List GEntry), ([] : List GRaw)⟩ : GTree), rfl, rfl, h⟩, (.t [0, 1, 2, 3, 4] true)⟩
 rintro _ _ ⟨m4_1, rfl, rfl, h⟩;unfold zQ.j2 at h;refine xy (fun L τ => L = [(3, .int .i64 a3), (4, .op 0 0 0), (5, .op 1 0 0), (6, .op 2 0 0), (8, .op 3 0 0), (10, .op 4 0 0)] ∧ τ = [.cells 0 (encGSchema a0), .cells 0 [.int .i64 a1.fKind, .str a1.fName], .cells 0 [.int .i64 a2.fTag, .int .i64 a2.fWire, .int .i64 a2.fN, .str a2.fB], .cells 0 [.int .i64 0, .int .i64 0, .str [], .ds true (qe encGEntry ([] : List GEntry)) (qb ([] : List GEntry)) false, .ds true (qe encGRaw ([] : List GRaw)) (qb ([] : List GRaw)) false], .cells 0 (cellsGTree m4_1)] ∧ zQ.j3 zC a0 a1 a2 a3 m4_1 = some r) ?_ ?_
 · refine rgN [3, 4, 5, 6, 8, 10, 23] ?_;apply ze;refine xy (fun L τ => ∃ (x25 : Bool), L = [(3, .int .i64 a3), (4, .op 0 0 0), (5, .op 1 0 0), (6, .op 2 0 0), (8, .op 3 0 0), (10, .op 4 0 0), (28, .bool x25)] ∧ τ = [.cells 0 (encGSchema a0), .cells 0 [.int .i64 a1.fKind, .str a1.fName], .cells 0 [.int .i64 a2.fTag, .int .i64 a2.fWire, .int .i64 a2.fN, .str a2.fB], .cells 0 [.int .i64 0, .int .i64 0, .str [], .ds true (qe encGEntry ([] : List GEntry)) (qb ([] : List GEntry)) false, .ds true (qe encGRaw ([] : List GRaw)) (qb ([] : List GRaw)) false], .cells 0 (cellsGTree m4_1)] ∧ zQ.j26 zC a0 a1 a2 a3 m4_1 x25 = some r) ?_ ?_
   · refine rgN [3, 4, 5, 6, 8, 10, 23, 28] ?_;refine zx rfl (fun hc34 => ?_) (fun hc34 => ?_)
     · rw [if_pos hc34] at h;have t35 := eq_true hc34;apply zd;exact ⟨_, _, ⟨decide (a1.fKind = 4), rfl, rfl, h⟩, .s⟩
     rw [if_neg hc34] at h;have t36 := eq_false hc34
     refine rg tok [3, 4, 5, 6, 8, 10, 23, 28] fun K hK => ?_
     simp only [go_sem, qc, qa, t36];apply hK
     refine zx rfl (fun hc37 => ?_) (fun hc37 => ?_)
     · rw [if_pos hc37] at h;have t38 := eq_true hc37;apply zd;exact ⟨_, _, ⟨decide (a1.fKind = 5), rfl, rfl, h⟩, .s⟩
     rw [if_neg hc37] at h;have t39 := eq_false hc37
     refine rgE tok [3, 4, 5, 6, 8, 10, 28] fun K hK => ?_
     simp only [go_sem, qc, qa, t39];apply hK
     exact ⟨_, _, ⟨decide (a1.fKind = 7), rfl, rfl, h⟩, .s⟩
   rintro _ _ ⟨x25, rfl, rfl, h⟩;unfold zQ.j26 at h;refine zn (b := x25) rfl (fun hc27 => ?_) (fun hc27 => ?_)
   · rw [if_pos hc27] at h;refine rgN [3, 4, 5, 6, 8, 10, 34] ?_;refine zx rfl (fun hc28 => ?_) (fun hc28 => ?_)
     · rw [if_neg hc28] at h;have t29 := eq_false hc28
       refine rg tok [8, 9] fun K hK => ?_
       simp only [go_sem, qc, qf, qa, qd, t29];apply hK
       cases h;exact rtA
     rw [if_pos hc28] at h;have t30 := eq_true hc28;apply zd;exact ⟨_, _, ⟨rfl, rfl, h⟩, .s⟩
   rw [xN hc27] at h;refine rgN [3, 4, 5, 6, 8, 10, 26] ?_;refine zx rfl (fun hc31 => ?_) (fun hc31 => ?_)
   · rw [if_neg hc31] at h;have t32 := eq_false hc31
     refine rg tok [8, 9] fun K hK => ?_
     simp only [go_sem, qc, qf, qa, qd, t32];apply hK
     cases h;exact rtA
   rw [if_pos hc31] at h;have t33 := eq_true hc31;apply zd;exact ⟨_, _, ⟨rfl, rfl, h⟩, .s⟩
 rintro _ _ ⟨rfl, rfl, h⟩;unfold zQ.j3 at h;refine xy (fun L τ => L = [(8, .op 0 0 0), (10, .op 1 0 0)] ∧ τ = [.cells 0 [.int .i64 0, .int .i64 0, .str [], .ds true (qe encGEntry ([] : List GEntry)) (qb ([] : List GEntry)) false, .ds true (qe encGRaw ([] : List GRaw)) (qb ([] : List GRaw)) false], .cells 0 (cellsGTree m4_1)] ∧ zQ.j4 m4_1 = some r) ?_ ?_
 · refine rgN [3, 4, 5, 6, 8, 10, 37] ?_;apply ze;refine xy (fun L τ => ∃ (x5 : Bool), L = [(3, .int .i64 a3), (4, .op 0 0 0), (5, .op 1 0 0), (6, .op 2 0 0), (8, .op 3 0 0), (10, .op 4 0 0), (37, .int .i64 a1.fKind), (38, .bool x5)] ∧ τ = [.cells 0 (encGSchema a0), .cells 0 [.int .i64 a1.fKind, .str a1.fName], .cells 0 [.int .i64 a2.fTag, .int .i64 a2.fWire, .int .i64 a2.fN, .str a2.fB], .cells 0 [.int .i64 0, .int .i64 0, .str [], .ds true (qe encGEntry ([] : List GEntry)) (qb ([] : List GEntry)) false, .ds true (qe encGRaw ([] : List GRaw)) (qb ([] : List GRaw)) false], .cells 0 (cellsGTree m4_1)] ∧ zQ.j6 zC a0 a1 a2 a3 m4_1 x5 = some r) ?_ ?_
   · refine rgN [3, 4, 5, 6, 8, 10, 37, 38] ?_;refine zx rfl (fun hc22 => ?_) (fun hc22 => ?_)
     · rw [if_pos hc22] at h;have t23 := eq_true hc22;apply zd;exact ⟨_, _, ⟨decide (a1.fKind = 3), rfl, rfl, h⟩, .s⟩
     rw [if_neg hc22] at h;have t24 := eq_false hc22
     refine rgE tok [3, 4, 5, 6, 8, 10, 37, 38] fun K hK => ?_
     simp only [go_sem, qc, qa, t24];apply hK
     exact ⟨_, _, ⟨decide (a1.fKind = 6), rfl, rfl, h⟩, .s⟩
   rintro _ _ ⟨x5, rfl, rfl, h⟩;unfold zQ.j6 at h;refine zn (b := x5) rfl (fun hc7 => ?_) (fun hc7 => ?_)
   · rw [if_pos hc7] at h
     refine rc [8, 10, 45] fun K hK => ?_
     obtain ⟨r8, hr8, h⟩ := zS h;refine rnN 3 ?_;refine clN rfl rfl rfl (xB.ev a1 a2.fN r8 hr8 _) ?_;refine rnN 1 ?_;refine nkN hK ?_;refine zn (b := (!r8)) rfl (fun hc9 => ?_) (fun hc9 => ?_)
     · rw [if_pos hc9] at h;refine rgN [8, 9] ?_;cases h;exact rtA
     rw [xN hc9] at h;apply zd;exact ⟨_, _, ⟨rfl, rfl, h⟩, (.t [3, 4] false)⟩
   rw [xN hc7] at h;refine rgN [3, 4, 5, 6, 8, 10, 37, 47] ?_;refine zx rfl (fun hc10 => ?_) (fun hc10 => ?_)
   · rw [if_pos hc10] at h;have t11 := eq_true hc10
     refine rc [8, 10, 52] fun K hK => ?_
     obtain ⟨r12, hr12, h⟩ := bind_some h;refine zj tok 2 ?_;simp only [go_sem, qc, qa, qd, t11];refine clN rfl rfl rfl (yE.ev a2.fB r12 hr12 _) ?_;refine rnN 1 ?_;refine nkN hK ?_;refine zn (b := (!r12)) rfl (fun hc13 => ?_) (fun hc13 => ?_)
     · rw [if_pos hc13] at h;refine rgN [8, 9] ?_;cases h;exact rtA
     rw [xN hc13] at h;apply zd;exact ⟨_, _, ⟨rfl, rfl, h⟩, (.t [3, 4] false)⟩
   rw [if_neg hc10] at h;have t14 := eq_false hc10
   refine rg tok [3, 4, 5, 6, 8, 10, 54] fun K hK => ?_
   simp only [go_sem, qc, qa, t14];apply hK
   refine zx rfl (fun hc15 => ?_) (fun hc15 => ?_)
   · rw [if_pos hc15] at h;have t16 := eq_true hc15
     refine rc [3, 4, 6, 8, 11] fun K hK => ?_
     obtain ⟨r17, hr17, h⟩ := zS h;refine zj tok 3 ?_;simp only [go_sem, qc, qf, qa, qd, t16];refine clN rfl rfl rfl (zD.ev a0 a1.fName r17 hr17 _) ?_;refine zj tok 6 ?_;simp only [go_sem, qc, qf, qa, qd, encGMessage];refine nkN hK ?_
     refine rc [8, 9] fun K hK => ?_
     obtain ⟨_u18, hu18, h⟩ := bind_some h;have gu18 := wN hu18;have gu18t := eq_true gu18;have f19 := conv_s2b (T := tab) (src := 9) (dst := 34) rfl rfl rfl rfl rfl rfl (wN hu18);obtain ⟨r20, hr20, h⟩ := bind_some h;refine zj tok 7 ?_;simp only [go_sem, qc, qf, qa, qd, f19];refine Xq (L := [(8, .op 0 0 0), (63, .agg (encGSchema a0)), (64, .agg (encGMessage r17.1)), (67, .ds true (qe encB a2.fB) (qb a2.fB) false), (69, .int .i64 (IntKind.i64.wrap (a3 + 1)))]) (τ := [.cells 0 [.int .i64 0, .int .i64 0, .str [], .ds true (qe encGEntry ([] : List GEntry)) (qb ([] : List GEntry)) false, .ds true (qe encGRaw ([] : List GRaw)) (qb ([] : List GRaw)) false]]) (.t [3] false) ?_;refine clN rfl rfl rfl (ev_decode_message a0 r17.1 a2.fB (IntKind.i64.wrap (a3 + 1)) r20 hr20 _) ?_;refine zj tok 4 ?_;simp only [go_sem, qc, qf, qa, qd, cellsGTree, encGMessage, encGSchema];refine nkN hK ?_;cases h;exact rtA
   rw [if_neg hc15] at h;have t21 := eq_false hc15;apply zd;exact ⟨_, _, ⟨rfl, rfl, h⟩, (.t [3, 4] false)⟩
 rintro _ _ ⟨rfl, rfl, h⟩;unfold zQ.j4 at h;refine rgN [8, 9] ?_;cases h;exact rtA
end
section
open Go.RowKit AM
theorem setRun_ins (cs new : List AV) (k : Nat) (hk : k ≤ cs.length) (hn : new.length = 2) :
 yX (yX (cs ++ [.u, .u]) (k + 2) (cs.drop k)) k new = cs.take k ++ (new ++ cs.drop k) := by
 have e0 : cs ++ [AV.u, .u] = (cs.take k ++ ((cs.drop k ++ [AV.u, .u]).take 2)) ++ (((cs.drop k ++ [AV.u, .u]).drop 2) ++ []) := by
  rw [qB, qp, un, ← qp, un]
 have l1 : ((cs.drop k ++ [AV.u, .u]).take 2).length = 2 := by simp
 have l2 : (cs.take k ++ ((cs.drop k ++ [AV.u, .u]).take 2)).length = k + 2 := by rw [qi, l1, uG, Nat.min_eq_left hk]
 have e1 : yX (cs ++ [.u, .u]) (k + 2) (cs.drop k) = (cs.take k ++ ((cs.drop k ++ [AV.u, .u]).take 2)) ++ (cs.drop k ++ []) := by
  rw [e0, ← l2]
  exact ZF (cs.drop k) _ _ [] (by simp)
 rw [e1, qB, qp]
 have l3 : (cs.take k).length = k := by rw [uG, Nat.min_eq_left hk]
 have := ZF new (cs.take k) ((cs.drop k ++ [AV.u, .u]).take 2) (cs.drop k) (by rw [l1, hn])
 rw [l3] at this
 exact this
theorem all_drop {l : List AV} {k : Nat} (h : l.all AV.one = true) : (l.drop k).all AV.one = true := by
 rw [uc] at *
 exact fun x hx => h x (List.mem_of_mem_drop hx)
theorem frozen_end {E : Env} {b : Nat} {cs : List AV} (h : Blk E b cs) {t : TypeId} {m : Nat} (hs : E.w.shape? b = some (t, m)) (ht : tsize t = 2) (o : Nat) : E.w.frozen? ⟨b, o, none⟩ = false := by
 obtain ⟨conc, t', fr, a1, a2, a3, a4⟩ := h.blk
 have : t' = t := by simp only [World.shape?, a1, Option.some.injEq, Prod.mk.injEq] at hs; exact hs.1
 subst this
 have he : fr.1 = fr.2 := by
  rcases a2 with h | ⟨_, h⟩
  · exact h
  omega
 obtain ⟨lo, hi⟩ := fr
 simp only [World.frozen?, a1]
 simp only at he
 simp only [Bool.and_eq_false_iff, decide_eq_false_iff_not]
 omega
set_option maxHeartbeats 4000000 in
set_option maxRecDepth 100000 in
theorem ins_shift {E : Env} {σ : Store} (hS : SR E σ) {id ver n i b cap vid vver vb : Nat} {cells new : List AV} (hcs : Store.at σ id ver = some cells) (hlen : cells.length = n * 2) (hone : cells.all AV.one = true) (hi : i < n)
 (hloc : E.loc id = some (ver, some b)) (hok : E.ok id ver) {t m : Nat} (hsh : E.w.shape? b = some (t, m)) (hts : tsize t = 2) (hm : cap * 2 ≤ m) (hroom : n + 1 ≤ cap) (hn : (n + 1) * 32 ≤ 140737488355328)
 (hv : Store.at σ vid vver = some new) (hnew : new.length = 2) (honev : new.all AV.one = true) (hvid : vid ≠ id) (hvloc : E.loc vid = some (vver, some vb)) (hvok : E.ok vid vver) {tv mv : Nat} (hvsh : E.w.shape? vb = some (tv, mv)) (hvts : tsize tv = 2) (hvc : 2 ≤ mv) :
 Calls qh 113 #[.slice (some ⟨b, 0, none⟩) n cap, .int .i64 i, .slice (some ⟨vb, 0, none⟩) 1 1] E.w fun e w' =>
  ∃ E', e = .returned (.slice (some ⟨b, 0, none⟩) (n + 1) cap) ∧ w' = E'.w ∧ VR E' (.os true 2 id ver 0 (n + 1) false) (.slice (some ⟨b, 0, none⟩) (n + 1) cap) ∧ SR E' (σ.set id (.cells ver (cells.take (i * 2) ++ (new ++ cells.drop (i * 2))))) ∧ Ext E E' := by
 have hvb : vb ≠ b := fun e => hvid (hS.inj _ _ _ _ b (e ▸ hvloc) hloc)
 have hB1 : Blk E b cells := by
  rcases hS.at hcs with ⟨b', h1, h2⟩ | ⟨_, h1⟩
  · rw [hloc] at h1; cases h1; exact h2
  rw [hloc] at h1; cases h1
 have hB2 : Blk E vb new := by
  rcases hS.at hv with ⟨b', h1, h2⟩ | ⟨_, h1⟩
  · rw [hvloc] at h1; cases h1; exact h2
  rw [hvloc] at h1; cases h1
 have hSw := hS.widen hcs hloc hsh 2 (by omega)
 obtain ⟨hS1, hx1⟩ := hSw.grew (Ys.drew E.w)
 have hcsw : Store.at (σ.set id (.cells ver (cells ++ qP 2 AV.u))) id ver = some (cells ++ qP 2 AV.u) := Store.at_set hcs
 have hlt := Store.at_lt hcs
 have hvw : Store.at (σ.set id (.cells ver (cells ++ qP 2 AV.u))) vid vver = some new := by
  unfold Store.at at hv ⊢; rw [ue (fun e => hvid e.symm)]; exact hv
 have os1 : ∀ {E' : Env} (hx : Ext E E') (k : Nat), k ≤ n → VR E' (.os true 2 id ver (k * 2) (n + 1 - k) false) (.slice (some ⟨b, k * 2, none⟩) (n + 1 - k) (cap - k)) := by
  intro E' hx k hk
  refine VR.ext hx (.os _ _ _ _ _ _ _ _ _ hok (by omega) (fun h => by cases h) (by omega) fun ob hob => ?_)
  rw [hloc] at hob; cases hob
  exact ⟨b, rfl, .inr rfl, t, m, hsh, hts, by omega⟩
 have osv : ∀ {E' : Env} (hx : Ext E E'), VR E' (.os true 2 vid vver 0 1 true) (.slice (some ⟨vb, 0, none⟩) 1 1) := by
  intro E' hx
  refine VR.ext hx (.os _ _ _ _ _ _ _ _ _ hvok (by omega) (fun _ => rfl) (by omega) fun ob hob => ?_)
  rw [hvloc] at hob; cases hob
  exact ⟨vb, rfl, .inr rfl, tv, mv, hvsh, hvts, by omega⟩
 have hov : ∀ lb cb, (callFunc 144 #[.slice (some ⟨vb, 0, none⟩) 1 1, .slice (some ⟨b, (i + 1) * 2, none⟩) lb cb]).run qh E.w = .ok (.value (.bool false)) E.w := fun lb cb => by
  rw [run_callFunc_extern Tryz.func144 (by kernel_rfl) (by kernel_rfl) (by kernel_rfl) (e := Extern.SlicesOverlaps.overlaps #[27, 27] #[4]) (by kernel_rfl),
   Lib.run_overlaps_apart E.w 27 4 92 (tok _ _ Xa).desc 2 (fun w => xM w (tok _ _ Y9)) ⟨vb, 0, none⟩ ⟨b, (i + 1) * 2, none⟩ 1 1 lb cb hvb tv t mv m hvsh hsh (by omega) (frozen_end hB2 hvsh hvts _) (frozen_end hB2 hvsh hvts _)]
  rfl
 have hdl : (cells.drop (i * 2)).length = (n - i) * 2 := by rw [uH, hlen, Nat.sub_mul]
 have hlw : (cells ++ qP 2 AV.u).length = (n + 1) * 2 := by rw [qi, hlen, List.length_replicate, uS]
 have hW : ∀ ty, ∃ v E2, (Builtin.copy_ #[27, 27] ty #[.slice (some ⟨b, (i + 1) * 2, none⟩) (n + 1 - (i + 1)) (cap - (i + 1)), .slice (some ⟨b, i * 2, none⟩) (n + 1 - i) (cap - i)]).run qh E.w.drew = .ok v E2.w ∧
  SR E2 (σ.set id (.cells ver (yX (cells ++ [.u, .u]) (i * 2 + 2) (cells.drop (i * 2))))) ∧ Ext E E2 := by
  intro ty
  have hx0 : Ext E { E with w := E.w.drew } := hx1
  have hd := os1 hx0 (i + 1) (by omega)
  have hs := os1 hx0 i (by omega)
  have hev : YL tab 27 (.os true 2 id ver ((i + 1) * 2) (n + 1 - (i + 1)) false) (.os true 2 id ver (i * 2) (n + 1 - i) false) (σ.set id (.cells ver (cells ++ qP 2 AV.u))) =
   some (.int .i64 ((min (n + 1 - i) (n + 1 - (i + 1)) : Nat) : Int), (σ.set id (.cells ver (cells ++ qP 2 AV.u))).set id (.cells ver (yX (cells ++ qP 2 AV.u) ((i + 1) * 2) (cells.drop (i * 2))))) := by
   have e1 : ym (σ.set id (.cells ver (cells ++ qP 2 AV.u))) 2 (.os true 2 id ver (i * 2) (n + 1 - i) false) = some (n + 1 - i, ((cells ++ qP 2 AV.u).drop (i * 2)).take ((n + 1 - i) * 2)) := by
    simp only [ym, hcsw]
    rw [if_pos (by rw [hlw, ← uS]; exact q1 _ (by omega))]
   have e2 : min (n + 1 - i) (n + 1 - (i + 1)) = n - i := by omega
   have e3 : (((cells ++ qP 2 AV.u).drop (i * 2)).take ((n + 1 - i) * 2)).take ((n - i) * 2) = cells.drop (i * 2) := by
    rw [List.take_take, Nat.min_eq_left (q1 _ (by omega)), List.drop_append_of_le_length (by rw [hlen]; exact q1 _ (by omega)), List.take_append_of_le_length (by rw [hdl]; exact qu _), ← hdl, ul]
   have hp : w8 (σ.set id (.cells ver (cells ++ qP 2 AV.u))) (.os true 2 id ver ((i + 1) * 2) (n + 1 - (i + 1)) false) (n - i) 2 (cells.drop (i * 2)) = some ((σ.set id (.cells ver (cells ++ qP 2 AV.u))).set id (.cells ver (yX (cells ++ qP 2 AV.u) ((i + 1) * 2) (cells.drop (i * 2))))) := by
    unfold w8
    rw [if_neg (by omega)]
    simp only [hcsw]
    rw [if_pos ⟨trivial, by rw [hlw, hdl, ← uS]; exact q1 _ (by omega), all_drop hone⟩]
   simp only [YL, Xa, Y9, e1, e2, e3, hp]
  obtain ⟨v, E2, h1, h2, h3, h4⟩ := YD (P := qh) (st := 27) (ty := ty) tok hS1 hd hs hev
  refine ⟨v, E2, h1, ?_, hx0.trans h4⟩
  rw [List.set_set] at h3
  have e : (i + 1) * 2 = i * 2 + 2 := by omega
  rw [e] at h3
  exact h3
 obtain ⟨v1, E2, hc1, hS2, hx2⟩ := hW 3
 rw [show n + 1 - (i + 1) = n - i by omega] at hc1
 have hcs2 : Store.at (σ.set id (.cells ver (yX (cells ++ [.u, .u]) (i * 2 + 2) (cells.drop (i * 2))))) id ver = some (yX (cells ++ [.u, .u]) (i * 2 + 2) (cells.drop (i * 2))) := Store.at_set hcs
 have hv2 : Store.at (σ.set id (.cells ver (yX (cells ++ [.u, .u]) (i * 2 + 2) (cells.drop (i * 2))))) vid vver = some new := by
  unfold Store.at at hv ⊢; rw [ue (fun e => hvid e.symm)]; exact hv
 have hW2 : ∃ v E3, (Builtin.copy_ #[27, 27] 3 #[.slice (some ⟨b, i * 2, none⟩) (n + 1 - i) (cap - i), .slice (some ⟨vb, 0, none⟩) 1 1]).run qh E2.w = .ok v E3.w ∧
  SR E3 (σ.set id (.cells ver (cells.take (i * 2) ++ (new ++ cells.drop (i * 2))))) ∧ Ext E E3 := by
  have hd := os1 hx2 i (by omega)
  have hs := osv hx2
  have hev : YL tab 27 (.os true 2 id ver (i * 2) (n + 1 - i) false) (.os true 2 vid vver 0 1 true) (σ.set id (.cells ver (yX (cells ++ [.u, .u]) (i * 2 + 2) (cells.drop (i * 2))))) =
   some (.int .i64 ((min 1 (n + 1 - i) : Nat) : Int), (σ.set id (.cells ver (yX (cells ++ [.u, .u]) (i * 2 + 2) (cells.drop (i * 2))))).set id (.cells ver (yX (yX (cells ++ [.u, .u]) (i * 2 + 2) (cells.drop (i * 2))) (i * 2) new))) := by
   have e1 : ym (σ.set id (.cells ver (yX (cells ++ [.u, .u]) (i * 2 + 2) (cells.drop (i * 2))))) 2 (.os true 2 vid vver 0 1 true) = some (1, new) := by
    simp only [ym, hv2]
    rw [if_pos (by omega), qy, ← hnew, Nat.one_mul] 
    rw [show new.length = new.length from rfl, ul]
   have e2 : min 1 (n + 1 - i) = 1 := by omega
   have e3 : new.take (1 * 2) = new := by rw [Nat.one_mul, ← hnew, ul]
   have hp : w8 (σ.set id (.cells ver (yX (cells ++ [.u, .u]) (i * 2 + 2) (cells.drop (i * 2))))) (.os true 2 id ver (i * 2) (n + 1 - i) false) 1 2 new = some ((σ.set id (.cells ver (yX (cells ++ [.u, .u]) (i * 2 + 2) (cells.drop (i * 2))))).set id (.cells ver (yX (yX (cells ++ [.u, .u]) (i * 2 + 2) (cells.drop (i * 2))) (i * 2) new))) := by
    unfold w8
    rw [if_neg (by omega)]
    simp only [hcs2]
    rw [if_pos ⟨trivial, by rw [Y0, hnew]; simp only [qi, qj, ql, hlen]; omega, honev⟩]
   simp only [YL, Xa, Y9, e1, e2, e3, hp]
  obtain ⟨v, E3, h1, h2, h3, h4⟩ := YD (P := qh) (st := 27) (ty := 3) tok hS2 hd hs hev
  refine ⟨v, E3, h1, ?_, hx2.trans h4⟩
  rw [List.set_set, setRun_ins _ _ _ (by omega) hnew] at h3
  exact h3
 obtain ⟨v2, E3, hc2, hS3, hx3⟩ := hW2
 have hfin := os1 hx3 0 (uk _)
 rw [uy, uM, uM] at hfin
 have hz1 : ¬ ((i : Int) = (n : Int)) := by omega
 have hw1 : IntKind.i64.wrap ((i : Int) + 1) = (i : Int) + 1 := by rw [IntKind.wrap_i64]; omega
 have hw2 : IntKind.i64.wrap ((n : Int) + 1) = (n : Int) + 1 := by rw [IntKind.wrap_i64]; omega
 have hb1 : (0 : Int) ≤ (i : Int) + 1 := by omega
 have hin : i ≤ n := by omega
 have htn : ((i : Int) + 1).toNat = i + 1 := by omega
 have hb2 : ¬ (cap = i + 1) := by omega
 have hb3 : (i : Int) ≤ (n : Int) + 1 := by omega
 have hb4 : ¬ (cap = i) := by omega
 have mixed : Tryz.prog.follows .mixedOrders = true := by kernel_rfl
 clear hS hcs hcsw hvw hcs2 hv2 hS1 hSw os1 osv hB1 hB2 hW
 go_enter Tryz.func113, Tryz.ntmps113
 go_wp2_with (simp only [hov])
 go_region_law_o (refine step_copy_runI rfl _ _ 27 27 rfl _ _ (by simp [Act.eval, Act.put]) (by simp [Act.eval, Act.put]) hc1 ?_)
 go_wp2_with (at_builtin; refine wpList_copy_runI _ rfl _ _ 27 27 rfl _ _ rfl rfl hc2 ?_)
 go_ret
 exact ⟨E3, rfl, rfl, hfin, hS3, hx3⟩
theorem setRun_ins2 (cs new : List AV) (k : Nat) (hk : k ≤ cs.length) (hn : new.length = 2) (q : Nat) (hq : q = cs.length - k + 2) :
 yX (yX (cs.take k ++ qP q AV.u) k new) (k + 2) (cs.drop k) = cs.take k ++ (new ++ cs.drop k) := by
 have l3 : (cs.take k).length = k := by rw [uG, Nat.min_eq_left hk]
 have e0 : cs.take k ++ qP q AV.u = cs.take k ++ (qP 2 AV.u ++ qP (cs.length - k) AV.u) := by
  rw [List.replicate_append_replicate, hq, Nat.add_comm]
 have e1 : yX (cs.take k ++ qP q AV.u) k new = cs.take k ++ (new ++ qP (cs.length - k) AV.u) := by
  rw [e0]
  have := ZF new (cs.take k) (qP 2 AV.u) (qP (cs.length - k) AV.u) (by simp [hn])
  rw [l3] at this; exact this
 have l4 : (cs.take k ++ new).length = k + 2 := by rw [qi, l3, hn]
 rw [e1, ← qp, ← l4]
 have := ZF (cs.drop k) (cs.take k ++ new) (qP (cs.length - k) AV.u) [] (by simp)
 rw [qB, qB] at this
 rw [this, qp]
set_option maxHeartbeats 4000000 in
set_option maxRecDepth 100000 in
theorem ins_grow {E : Env} {σ : Store} (hS : SR E σ) {id ver n i b vid vver vb : Nat} {cells new : List AV} (hcs : Store.at σ id ver = some cells) (hlen : cells.length = n * 2) (hone : cells.all AV.one = true) (hi : i < n)
 (hloc : E.loc id = some (ver, some b)) (hok : E.ok id ver) {t m : Nat} (hsh : E.w.shape? b = some (t, m)) (hts : tsize t = 2) (hm : n * 2 ≤ m) (hn : (n + 1) * 32 ≤ 140737488355328)
 (hv : Store.at σ vid vver = some new) (hnew : new.length = 2) (honev : new.all AV.one = true) (hvid : vid ≠ id) (hvloc : E.loc vid = some (vver, some vb)) (hvok : E.ok vid vver) {tv mv : Nat} (hvsh : E.w.shape? vb = some (tv, mv)) (hvts : tsize tv = 2) (hvc : 2 ≤ mv) :
 Calls qh 113 #[.slice (some ⟨b, 0, none⟩) n n, .int .i64 i, .slice (some ⟨vb, 0, none⟩) 1 1] E.w fun e w' =>
  ∃ E' v, e = .returned v ∧ w' = E'.w ∧ VR E' (.os true 2 σ.length 0 0 (n + 1) false) v ∧ SR E' (σ ++ [.cells 0 (cells.take (i * 2) ++ (new ++ cells.drop (i * 2)))]) ∧ Ext E E' ∧ ∀ i2 v2 nb, E.loc i2 = some (v2, some nb) → E'.loc σ.length = some (0, some nb) → False := by
 have hvb : vb ≠ b := fun e => hvid (hS.inj _ _ _ _ b (e ▸ hvloc) hloc)
 have hlt := Store.at_lt hcs
 have hltv := Store.at_lt hv
 obtain ⟨hS1, hx1⟩ := hS.grew (Ys.drew E.w)
 have os1 : ∀ {E' : Env} (hx : Ext E E') (k q : Nat), k + q ≤ n → VR E' (.os true 2 id ver (k * 2) q false) (.slice (some ⟨b, k * 2, none⟩) q (n - k)) := by
  intro E' hx k q hk
  refine VR.ext hx (.os _ _ _ _ _ _ _ _ _ hok (by omega) (fun h => by cases h) (by omega) fun ob hob => ?_)
  rw [hloc] at hob; cases hob
  exact ⟨b, rfl, .inr rfl, t, m, hsh, hts, by omega⟩
 have osv : ∀ {E' : Env} (hx : Ext E E'), VR E' (.os true 2 vid vver 0 1 true) (.slice (some ⟨vb, 0, none⟩) 1 1) := by
  intro E' hx
  refine VR.ext hx (.os _ _ _ _ _ _ _ _ _ hvok (by omega) (fun h => rfl) (by omega) fun ob hob => ?_)
  rw [hvloc] at hob; cases hob
  exact ⟨vb, rfl, .inr rfl, tv, mv, hvsh, hvts, by omega⟩
 have htl : (cells.take (i * 2)).length = i * 2 := by rw [uG, hlen]; omega
 have hdl : (cells.drop (i * 2)).length = (n - i) * 2 := by rw [uH, hlen, Nat.sub_mul]
 -- what is copied by append
 have hold0 := os1 hx1 0 i (by omega)
 rw [uy] at hold0
 obtain ⟨_, _, hrd⟩ := Xi (P := qh) hS1 hold0 (size := 2) (n := i) (cs := cells.take (i * 2)) (by
  simp only [ym, hcs]
  rw [if_pos (by omega), qy])
 obtain ⟨os, hos, hto⟩ := hrd i (qu _)
 rw [show (cells.take (i * 2)).take (i * 2) = cells.take (i * 2) by rw [List.take_take, Nat.min_self]] at hto
 obtain ⟨G, hG⟩ : ∃ G, G = grownCap E.w (n + 1) n 92 := ⟨_, rfl⟩
 have hGn : n + 1 ≤ G := by rw [hG]; unfold grownCap; simp only [Question.cut]; omega
 obtain ⟨conc, hconc⟩ : ∃ conc : Array Value, conc = os ++ Builtin.zeroCells (Value.agg #[Value.int IntKind.i64 0, Value.slice none 0 0]).cells (n + 1 - i) ++ Builtin.zeroCells (Value.agg #[Value.int IntKind.i64 0, Value.slice none 0 0]).cells (G - (n + 1)) := ⟨_, rfl⟩
 have hrz : ∀ ty, (Builtin.append_ #[27, 3] ty #[.slice (some ⟨b, 0, none⟩) i n, .int .i64 ((n : Int) + 1 - (i : Int))]).run qh E.w =
  .ok (.slice (some ⟨E.w.heap.size, 0, none⟩) (n + 1) G) (E.w.drew.alloc (.cells conc 92)) := fun ty => by
  have h := Lib.run_append_grow_zeros (P := qh) E.w 27 3 ty 92 Tryz.t92 _ .i64 .i64 Tryz.underlying27 Tryz.underlying3 Tryz.type92 rfl (some ⟨b, 0, none⟩) i n os.toList (by rw [Array.toArray_toList]; exact hos) (n + 1 - i) (by omega) (by decide) (by omega) (by omega) (by show (n + 1 - i) * 32 ≤ _; omega) (by
   rw [show i + (n + 1 - i) = n + 1 by omega]
   exact growslice_fits (by omega) (by show (n + 1) * 32 ≤ _; omega))
  rw [show i + (n + 1 - i) = n + 1 by omega, ← hG, Array.toArray_toList, ← hconc] at h
  rw [show (n : Int) + 1 - (i : Int) = ((n + 1 - i : Nat) : Int) by omega]
  exact h
 have hsz1 : os.size = i * 2 := by rw [hto.1, htl]
 have hcsz : G * 2 ≤ conc.size := by
  rw [hconc]
  simp only [Array.size_append, hsz1, Builtin.zeroCells, Value.cells]
  simp
  omega
 have hnr := hS1.newRow conc 92 (cells.take (i * 2) ++ qP ((n + 1 - i) * 2) AV.u) (by rw [qi, htl, List.length_replicate]; omega) (by
  intro k hk
  by_cases hki : k < i * 2
  · rw [Yv _ _ _ (by rw [htl]; exact hki)]
    have := hto.2 k (by rw [htl]; exact hki)
    have e : conc.getD k undef = os.getD k undef := by
     rw [hconc, Array.append_assoc]
     simp [Array.getElem?_append_left (show k < os.size by omega)]
    rw [e]; exact this
  rw [ZB _ _ _ (by rw [htl]; omega)]
  have : gc (qP ((n + 1 - i) * 2) AV.u) (k - (cells.take (i * 2)).length) = .u := by
   unfold gc
   rw [qv, List.getElem?_replicate]
   split <;> rfl
  rw [this]; exact .u _)
 obtain ⟨hS2, hx2⟩ := hnr
 obtain ⟨E2, hE2⟩ : ∃ E2, E2 = Env.new { E with w := E.w.drew } (E.w.drew.alloc (.cells conc 92)) (some E.w.drew.heap.size) := ⟨_, rfl⟩
 have hloc2 : E2.loc σ.length = some (0, some E.w.heap.size) := by rw [hE2]; exact Env.loc_new hS1 _ _
 have hok2 : E2.ok σ.length 0 := by rw [hE2]; exact Env.ok_new hS1 _ _
 have hE2w : E2.w = E.w.drew.alloc (.cells conc 92) := by rw [hE2]; rfl
 rw [← hE2] at hS2 hx2
 have hx02 : Ext E E2 := Ext.trans hx1 hx2
 have hsh2 : E2.w.shape? E.w.heap.size = some (92, conc.size) := by
  rw [hE2w]
  have := xv E.w.drew (.cells conc 92)
  simp only [World.shape?]
  rw [show E.w.heap.size = E.w.drew.heap.size from rfl, this]
 have osn : ∀ {E' : Env} (hx : Ext E2 E') (k q : Nat), k + q ≤ n + 1 → VR E' (.os true 2 σ.length 0 (k * 2) q false) (.slice (some ⟨E.w.heap.size, k * 2, none⟩) q (G - k)) := by
  intro E' hx k q hk
  refine VR.ext hx (.os _ _ _ _ _ _ _ _ _ hok2 (by omega) (fun h => by cases h) (by omega) fun ob hob => ?_)
  rw [hloc2] at hob; cases hob
  exact ⟨_, rfl, .inr rfl, _, _, hsh2, rfl, by omega⟩
 have hat2 : ∀ cs, Store.at (σ ++ [.cells 0 cs]) σ.length 0 = some cs := fun cs => Store.at_new σ 0 cs
 have hset2 : ∀ cs cs', (σ ++ [ZR.cells 0 cs]).set σ.length (.cells 0 cs') = σ ++ [.cells 0 cs'] := fun cs cs' => by
  rw [List.set_append_right _ _ (qu _), uK]; rfl
 have hold2 : ∀ {id ver : Nat} {c cs : List AV}, Store.at σ id ver = some c → Store.at (σ ++ [ZR.cells 0 cs]) id ver = some c := by
  intro id ver c cs h
  have := Store.at_lt h
  unfold Store.at at h ⊢; rw [qS this]; exact h
 -- the first copy
 have hW2 : ∃ v E3, (Builtin.copy_ #[27, 27] 3 #[.slice (some ⟨E.w.heap.size, i * 2, none⟩) (n + 1 - i) (G - i), .slice (some ⟨vb, 0, none⟩) 1 1]).run qh E2.w = .ok v E3.w ∧
  SR E3 (σ ++ [.cells 0 (yX (cells.take (i * 2) ++ qP ((n + 1 - i) * 2) AV.u) (i * 2) new)]) ∧ Ext E2 E3 := by
  have hd := osn (Ext.refl E2) i (n + 1 - i) (by omega)
  have hs := osv hx02
  have hev : YL tab 27 (.os true 2 σ.length 0 (i * 2) (n + 1 - i) false) (.os true 2 vid vver 0 1 true) (σ ++ [.cells 0 (cells.take (i * 2) ++ qP ((n + 1 - i) * 2) AV.u)]) =
   some (.int .i64 ((min 1 (n + 1 - i) : Nat) : Int), σ ++ [.cells 0 (yX (cells.take (i * 2) ++ qP ((n + 1 - i) * 2) AV.u) (i * 2) new)]) := by
   have e1 : ym (σ ++ [.cells 0 (cells.take (i * 2) ++ qP ((n + 1 - i) * 2) AV.u)]) 2 (.os true 2 vid vver 0 1 true) = some (1, new) := by
    simp only [ym, hold2 hv]
    rw [if_pos (by omega), qy, Nat.one_mul, ← hnew, ul]
   have e2 : min 1 (n + 1 - i) = 1 := by omega
   have e3 : new.take (1 * 2) = new := by rw [Nat.one_mul, ← hnew, ul]
   have hp : w8 (σ ++ [.cells 0 (cells.take (i * 2) ++ qP ((n + 1 - i) * 2) AV.u)]) (.os true 2 σ.length 0 (i * 2) (n + 1 - i) false) 1 2 new = some (σ ++ [.cells 0 (yX (cells.take (i * 2) ++ qP ((n + 1 - i) * 2) AV.u) (i * 2) new)]) := by
    unfold w8
    rw [if_neg (by omega)]
    simp only [hat2, hset2]
    rw [if_pos ⟨trivial, by rw [hnew, qi, htl, List.length_replicate]; omega, honev⟩]
   simp only [YL, Xa, Y9, e1, e2, e3, hp]
  obtain ⟨v, E3, h1, h2, h3, h4⟩ := YD (P := qh) (st := 27) (ty := 3) tok hS2 hd hs hev
  exact ⟨v, E3, h1, h3, h4⟩
 obtain ⟨v1, E3, hc1, hS3, hx3⟩ := hW2
 obtain ⟨hS4, hx4⟩ := hS3.grew (Ys.drew E3.w)
 -- the second copy
 have hW3 : ∀ ty, ∃ v E4, (Builtin.copy_ #[27, 27] ty #[.slice (some ⟨E.w.heap.size, (i + 1) * 2, none⟩) (n - i) (G - (i + 1)), .slice (some ⟨b, i * 2, none⟩) (n - i) (n - i)]).run qh E3.w.drew = .ok v E4.w ∧
  SR E4 (σ ++ [.cells 0 (cells.take (i * 2) ++ (new ++ cells.drop (i * 2)))]) ∧ Ext E2 E4 := by
  intro ty
  have hx24 : Ext E2 { E3 with w := E3.w.drew } := Ext.trans hx3 hx4
  have hd := osn hx24 (i + 1) (n - i) (by omega)
  have hs := os1 (hx02.trans hx24) i (n - i) (by omega)
  have hev : YL tab 27 (.os true 2 σ.length 0 ((i + 1) * 2) (n - i) false) (.os true 2 id ver (i * 2) (n - i) false) (σ ++ [.cells 0 (yX (cells.take (i * 2) ++ qP ((n + 1 - i) * 2) AV.u) (i * 2) new)]) =
   some (.int .i64 ((min (n - i) (n - i) : Nat) : Int), σ ++ [.cells 0 (cells.take (i * 2) ++ (new ++ cells.drop (i * 2)))]) := by
   have e1 : ym (σ ++ [.cells 0 (yX (cells.take (i * 2) ++ qP ((n + 1 - i) * 2) AV.u) (i * 2) new)]) 2 (.os true 2 id ver (i * 2) (n - i) false) = some (n - i, cells.drop (i * 2)) := by
    simp only [ym, hold2 hcs]
    rw [if_pos (by rw [hlen, ← uS]; exact q1 _ (by omega)), ← hdl, ul]
   have e2 : min (n - i) (n - i) = n - i := by omega
   have e3 : (cells.drop (i * 2)).take ((n - i) * 2) = cells.drop (i * 2) := by rw [← hdl, ul]
   have hp : w8 (σ ++ [.cells 0 (yX (cells.take (i * 2) ++ qP ((n + 1 - i) * 2) AV.u) (i * 2) new)]) (.os true 2 σ.length 0 ((i + 1) * 2) (n - i) false) (n - i) 2 (cells.drop (i * 2)) = some (σ ++ [.cells 0 (cells.take (i * 2) ++ (new ++ cells.drop (i * 2)))]) := by
    unfold w8
    rw [if_neg (by omega)]
    simp only [hat2, hset2]
    rw [if_pos ⟨trivial, by rw [hdl, Y0, qi, htl, List.length_replicate]; omega, all_drop hone⟩]
    rw [show (i + 1) * 2 = i * 2 + 2 by omega, setRun_ins2 _ _ _ (by omega) hnew _ (by rw [hlen]; omega)]
   simp only [YL, Xa, Y9, e1, e2, e3, hp]
  obtain ⟨v, E4, h1, h2, h3, h4⟩ := YD (P := qh) (st := 27) (ty := ty) tok hS4 hd hs hev
  exact ⟨v, E4, h1, h3, hx24.trans h4⟩
 obtain ⟨v2, E4, hc2, hS5, hx5⟩ := hW3 3
 have hfin : VR E4 (.os true 2 σ.length 0 0 (n + 1) false) (.slice (some ⟨E.w.heap.size, 0, none⟩) (n + 1) G) := by
  have := osn hx5 0 (n + 1) (by omega)
  rwa [uy, uM] at this
 have hxf : Ext E E4 := hx02.trans hx5
 have hnew' : ∀ i2 v2 nb, E.loc i2 = some (v2, some nb) → E4.loc σ.length = some (0, some nb) → False := by
  intro i2 v2 nb h1 h2
  have h3 := hx5.back hok2 h2
  rw [hloc2] at h3; cases h3
  have := (hS.blk _ _ _ h1).1
  omega
 have hz1 : ¬ ((i : Int) = (n : Int)) := by omega
 have hw1 : IntKind.i64.wrap ((i : Int) + 1) = (i : Int) + 1 := by rw [IntKind.wrap_i64]; omega
 have hw2 : IntKind.i64.wrap ((n : Int) + 1) = (n : Int) + 1 := by rw [IntKind.wrap_i64]; omega
 have hw3 : IntKind.i64.wrap ((n : Int) + 1 - (i : Int)) = (n : Int) + 1 - (i : Int) := by rw [IntKind.wrap_i64]; omega
 have hb1 : (0 : Int) ≤ (i : Int) + 1 := by omega
 have hin : i ≤ n := by omega
 have htn : ((i : Int) + 1).toNat = i + 1 := by omega
 have hb2 : ¬ (G = i + 1) := by omega
 have hb3 : (i : Int) ≤ (n : Int) + 1 := by omega
 have hb4 : ¬ (G = i) := by omega
 have hb5 : ¬ (n = i) := by omega
 have hz3 : (n : Int) < (n : Int) + 1 := by omega
 have mixed : Tryz.prog.follows .mixedOrders = true := by kernel_rfl
 have hrz1 := hrz 27
 rw [← hE2w] at hrz1
 clear hS hcs hS1 os1 osv hrz hrd hos hto hS2 hx2 osn hold2 hset2 hat2 hW3 hE2 hE2w hloc2 hok2 hsh2 hx02 hold0 hG hconc hcsz
 go_enter Tryz.func113, Tryz.ntmps113
 go_wp2_with (first
  | (at_builtin; refine Lib.wpList_append_run _ rfl _ _ _ _ rfl _ _ rfl rfl _ _ hrz1 ?_)
  | (at_builtin; refine wpList_copy_runI _ rfl _ _ 27 27 rfl _ _ rfl rfl hc1 ?_))
 go_region_law_o (refine step_copy_runI rfl _ _ 27 27 rfl _ _ (by simp [Act.eval, Act.put]) (by simp [Act.eval, Act.put]) hc2 ?_)
 go_wp2
 go_ret
 exact ⟨E4, _, rfl, rfl, hfin, hS5, hxf, hnew'⟩
end
section
set_option maxRecDepth 20000
open Go.RowKit AM
theorem SR.die {E : Env} {σ : Store} (hS : SR E σ) : SR { E with n := E.n + 1 } (σ ++ [.dead]) ∧ Ext E { E with n := E.n + 1 } := by
 have hx : Ext E { E with n := E.n + 1 } := {
  os := rfl, tape := rfl, output := rfl, size := qu _, shape := fun _ _ h => h, st := fun _ h => ⟨h, rfl⟩, n := Nat.le_succ _,
  loc := fun _ _ v o h => ⟨v, o, h, qu _, fun _ => rfl⟩, old := fun _ _ _ => rfl, own := fun id v _ h _ => ⟨id, v, h⟩, stn := fun _ h => .inl h }
 have hn : E.loc σ.length = none := by
  have := hS.obj σ.length
  rw [uu (qu _)] at this
  exact this
 refine ⟨⟨by simp [hS.len], fun id => ?_, hS.inj, hS.blk, hS.stb, hS.glb⟩, hx⟩
 by_cases h1 : id < σ.length
 · rw [qS h1]
   exact (hS.obj id).ext hx rfl fun _ _ _ => rfl
 by_cases h2 : id = σ.length
 · subst h2
   rw [ui (qu _), uK]
   exact hn
 rw [uu (by simp; omega)]
 have := hS.obj id
 rw [uu (by omega)] at this
 exact this
theorem SR.swap {E : Env} {σ : Store} {cs : List AV} (hS : SR E (σ ++ [.cells 0 cs])) {id ver b nb : Nat} (hlt : id < σ.length) (hl : E.loc id = some (ver, some b)) (hn : E.loc σ.length = some (0, some nb)) :
 let E' : Env := { E with loc := fun i => if i = id then some (ver + 1, some nb) else if i = σ.length then none else E.loc i }
 SR E' (σ.set id (.cells (ver + 1) cs) ++ [.dead]) ∧ ExtV E E' ∧ ∀ sz len v, VR E (.os true sz σ.length 0 0 len false) v → VR E' (.os true sz id (ver + 1) 0 len false) v := by
 intro E'
 have hid : E'.loc id = some (ver + 1, some nb) := by simp [E']
 have hlast : E'.loc σ.length = none := by simp [E']; omega
 have hother : ∀ i, i ≠ id → i ≠ σ.length → E'.loc i = E.loc i := fun i h1 h2 => by simp [E', h1, h2]
 have hx : ExtV E E' := {
  shape := fun _ _ h => h
  st := fun _ h => ⟨h, rfl⟩
  n := qu _
  loc := fun i _ v o h => by
   by_cases h1 : i = id
   · subst h1; rw [hid] at h; cases h; exact ⟨ver, some b, hl, by omega, fun e => by omega⟩
   by_cases h2 : i = σ.length
   · subst h2; rw [hlast] at h; cases h
   rw [hother i h1 h2] at h; exact ⟨v, o, h, qu _, fun _ => rfl⟩ }
 have hnE : E.n = σ.length + 1 := by have := hS.len; simp at this; omega
 have hold : ∀ i v c, E'.loc i = some (v, some c) → (i = id ∧ c = nb) ∨ (i ≠ id ∧ i ≠ σ.length ∧ E.loc i = some (v, some c)) := by
  intro i v c h
  by_cases h1 : i = id
  · subst h1; rw [hid] at h; cases h; exact .inl ⟨rfl, rfl⟩
  by_cases h2 : i = σ.length
  · subst h2; rw [hlast] at h; cases h
  rw [hother i h1 h2] at h; exact .inr ⟨h1, h2, h⟩
 refine ⟨⟨by simp [hnE, E'], fun i => ?_, fun i i' v v' c h1 h2 => ?_, fun i v c h => ?_, hS.stb, hS.glb⟩, hx, fun sz len v h => ?_⟩
 · by_cases h1 : i = id
   · subst h1
     rw [qS (by simpa using hlt), ur hlt]
     have := hS.obj σ.length
     rw [ui (qu _), uK] at this
     rcases this with ⟨c, e1, e2⟩ | ⟨_, e1⟩
     · rw [hn] at e1; cases e1
       refine .inl ⟨nb, hid, ?_⟩
       obtain ⟨conc, t, fr, a1, a2, a3, a4⟩ := e2.blk
       exact ⟨conc, t, fr, a1, a2, a3, fun k hk => (a4 k hk).extV hx⟩
     rw [hn] at e1; cases e1
   by_cases h2 : i = σ.length
   · subst h2
     rw [ui (by simp)]
     simp only [List.length_set, uK, uI]
     exact hlast
   have ho := hS.obj i
   by_cases h3 : i < σ.length
   · rw [qS (by simpa using h3), ue (fun e => h1 e.symm)]
     rw [qS h3] at ho
     exact ho.extV hx (hother i h1 h2) fun _ _ _ => rfl
   rw [uu (by simp; omega)] at ho ⊢
   exact (hother i h1 h2).trans ho
 · rcases hold _ _ _ h1 with ⟨e1, e2⟩ | ⟨e1, e2, e3⟩
   · subst e1; subst e2
     rcases hold _ _ _ h2 with ⟨f1, f2⟩ | ⟨f1, f2, f3⟩
     · exact f1.symm
     exact absurd (hS.inj _ _ _ _ _ f3 hn) f2
   rcases hold _ _ _ h2 with ⟨f1, f2⟩ | ⟨f1, f2, f3⟩
   · subst f2; exact absurd (hS.inj _ _ _ _ _ e3 hn) e2
   exact hS.inj _ _ _ _ _ e3 f3
 · rcases hold _ _ _ h with ⟨e1, e2⟩ | ⟨e1, e2, e3⟩
   · subst e2; exact hS.blk _ _ _ hn
   exact hS.blk _ _ _ e3
 have hok : E'.ok id (ver + 1) := ⟨by show id < E.n; omega, fun v o h => by rw [hid] at h; cases h; exact qu _⟩
 cases h with
 | osn _ _ _ _ _ a hk h =>
  have := h _ hn; cases this
 | os _ _ _ _ _ _ _ a cap hk hc ht hB h =>
  refine .os _ _ _ _ _ _ _ a cap hok hc ht hB fun ob hob => ?_
  rw [hid] at hob; cases hob
  exact h _ hn
theorem Ext.swap {E0 E : Env} (hx : Ext E0 E) {σ0 : Store} (h0 : SR E0 σ0) {id ver b nb : Nat} (hl : E.loc id = some (ver, some b)) (hn : E.loc σ0.length = some (0, some nb)) (hnb : E0.w.heap.size ≤ nb) (hlt : id < σ0.length) :
 Ext E0 { E with loc := fun i => if i = id then some (ver + 1, some nb) else if i = σ0.length then none else E.loc i } := by
 refine { hx with loc := fun i hi v o h => ?_, own := fun i v c h hc => ?_, n := hx.n, st := hx.st }
 · by_cases h1 : i = id
   · subst h1
     simp only [if_true, Option.some.injEq, Prod.mk.injEq] at h
     obtain ⟨v0, o0, e1, e2, e3⟩ := hx.loc _ hi _ _ hl
     exact ⟨v0, o0, e1, by omega, fun e => by omega⟩
   simp only [if_neg h1] at h
   split at h
   · cases h
   exact hx.loc i hi v o h
 by_cases h1 : i = id
 · subst h1
   simp only [if_true, Option.some.injEq, Prod.mk.injEq] at h
   omega
 simp only [if_neg h1] at h
 split at h
 · cases h
 exact hx.own i v c h hc
theorem ACalls.dies {P : Program} {f : FuncId} {args : List AV} {σ : Store} {x : AV} {τ : Store} (h : ACalls P f args σ fun r σ' => r = x ∧ σ' = τ) : ACalls P f args σ fun r σ' => r = x ∧ σ' = τ ++ [.dead] := by
 refine ⟨h.1, fun E vs hS hl => (h.2 E vs hS hl).mono ?_⟩
 rintro e w ⟨v, r, σ', E', rfl, rfl, h3, h4, h5, rfl, rfl⟩
 obtain ⟨g1, g2⟩ := SR.die h4
 exact ⟨_, _, _, { E' with n := E'.n + 1 }, rfl, rfl, h3.ext g2, g1, h5.trans g2, rfl, rfl⟩
theorem bump {E E' : Env} {σ : Store} (hS : SR E σ) {id ver b : Nat} {cs cs' : List AV} (hcs : Store.at σ id ver = some cs) (hk : E.ok id ver) (hloc : E.loc id = some (ver, some b)) (hne : cs.length ≠ 0) (hlen : cs'.length ≠ 0) (h4 : SR E' (σ.set id (.cells ver cs'))) (h5 : Ext E E') {sz len : Nat} {v : Value}
 (h3 : VR E' (.os true sz id ver 0 len false) v) :
 ∃ E2 : Env, E2.w = E'.w ∧ SR E2 (σ.set id (.cells (ver + 1) cs')) ∧ VR E2 (.os true sz id (ver + 1) 0 len false) v ∧ Ext E E2 := by
 have hat := Store.at_set (ver' := ver) (cs' := cs') hcs
 have hl' : E'.loc id = some (ver, some b) := by
  rcases h4.at hat with ⟨b', e1, _⟩ | ⟨e1, _⟩
  · have := h5.back hk e1; rw [hloc] at this; cases this; exact e1
  rw [e1] at hlen; exact absurd rfl hlen
 obtain ⟨hS3, hx3⟩ := h4.move (Ys.refl E'.w) hat hl' (ob := some b) (fun b hb => by cases hb; exact ⟨.inr rfl, (h4.blk _ _ _ hl').1⟩) (cs := cs') (.inl ⟨b, by simp [Env.move], by
  rcases h4.at hat with ⟨b1, h1, hblk1⟩ | ⟨_, h1⟩
  · rw [hl'] at h1; cases h1
    obtain ⟨conc, t, fr, a1, a2, a3, a4⟩ := hblk1.blk
    exact ⟨conc, t, fr, a1, a2, a3, fun k hk => (a4 k hk).ext (Ext.move h4.stb (Ys.refl _) hl' _ fun b hb => by cases hb; exact .inr rfl)⟩
  rw [hl'] at h1; cases h1⟩)
 rw [List.set_set] at hS3
 refine ⟨E'.move E'.w id (ver + 1) (some b), rfl, hS3, ?_, h5.trans hx3⟩
 have hok : (E'.move E'.w id (ver + 1) (some b)).ok id (ver + 1) := ⟨ug hk.1 h5.n, fun v o hvo => by simp [Env.move] at hvo; omega⟩
 cases h3 with
 | osn _ _ _ _ _ a hk h => have := h _ hl'; cases this
 | os _ _ _ _ _ _ _ a cap hk hc ht hB h =>
  refine .os _ _ _ _ _ _ _ a cap hok hc ht hB fun ob hob => ?_
  simp only [Env.move, if_true, Option.some.injEq, Prod.mk.injEq, true_and] at hob
  subst hob
  exact h _ hl'
theorem Insert_at {σ : Store} {id ver n i vid vver : Nat} {nl : Bool} {cells new : List AV} (hcs : Store.at σ id ver = some cells) (hlen : cells.length = n * 2) (hone : cells.all AV.one = true) (hi : i ≤ n) (hn : (n + 1) * 32 ≤ 140737488355328)
 (hv : Store.at σ vid vver = some new) (hnew : new.length = 2) (honev : new.all AV.one = true) (hvid : vid ≠ id) :
 ACalls qh 113 [.os nl 2 id ver 0 n false, .int .i64 (i : Int), .os true 2 vid vver 0 1 true] σ (fun r σ' => r = .os true 2 id (ver + 1) 0 (n + 1) false ∧
  σ' = σ.set id (.cells (ver + 1) (cells.take (i * 2) ++ (new ++ cells.drop (i * 2)))) ++ [.dead]) := by
 have hlt := Store.at_lt hcs
 by_cases hin : i = n
 · subst hin
   refine ACalls.dies ?_
   refine Zs (rs := [.tmp 6]) tok Tryz.func113 rfl Tryz.ntmps113 rfl Tryz.call113 (by simp) ?_
   have hap : z6 tab 27 27 (.os nl 2 id ver 0 i false) (.os true 2 vid vver 0 1 true) σ = some (.os true 2 id (ver + 1) 0 (i + 1) false, σ.set id (.cells (ver + 1) (cells ++ new))) := by
    have e1 : ym σ 2 (.os true 2 vid vver 0 1 true) = some (1, new) := by
     simp only [ym, hv]
     rw [if_pos (by omega), qy, Nat.one_mul, ← hnew, ul]
    have hg : ((i + 1) * 32 ≤ 140737488355328) = True := eq_true (by omega)
    simp only [z6, Xa, Y9, e1, yg, hg, honev, qc, and_self, if_true, zM, hcs, hlen]
   have hsl : wy tab 27 (.os nl 2 id ver 0 i false) (some (.int .i64 (i : Int))) none none = some (.os nl 2 id ver (i * 2) (i - i) false) := by
    simp only [wy, Xa, Y9, vaR]
    simp
   refine zl [(0, .os nl 2 id ver 0 i false), (1, .int .i64 (i : Int)), (2, .os true 2 vid vver 0 1 true)] ⟨rfl, rfl, rfl, trivial⟩ ?_
   refine rg tok [0, 1, 2, 6] fun K hK => ?_
   simp only [go_sem, qc, qa, reduceCtorEq]
   apply hK
   clear hK K
   refine rg tok [0, 1, 2, 6] fun K hK => ?_
   simp only [go_sem, qc, qa, reduceCtorEq, hsl]
   apply hK
   clear hK K
   refine rg tok [0, 1, 2, 6, 7] fun K hK => ?_
   simp only [go_sem, qc, qa, reduceCtorEq]
   apply hK
   clear hK K
   refine za fun Z hZ => ?_
   refine rg tok [0, 1, 2, 6, 7, 16] fun K hK => ?_
   simp only [go_sem, qc, qa, reduceCtorEq]
   apply hK
   clear hK K
   refine zx rfl (fun h => absurd h (by decide)) (fun _ => ?_)
   refine zd ?_
   refine hZ _ _ ?_
   clear hZ Z
   refine rg tok [0, 1, 2, 6, 7, 8] fun K hK => ?_
   simp only [go_sem, qc, qa, reduceCtorEq]
   apply hK
   clear hK K
   refine za fun Z hZ => ?_
   refine rg tok [0, 1, 2, 6, 7, 8, 22] fun K hK => ?_
   simp only [go_sem, qc, qa, reduceCtorEq, decide_true]
   apply hK
   clear hK K
   refine zp rfl ?_
   refine rg tok [6] fun K hK => ?_
   simp only [go_sem, qc, qa, reduceCtorEq, hap]
   apply hK
   clear hK K
   refine yB ?_
   simp only [ZC, yQ, xb, xR, exists_eq_left', go_sem]
   rw [← hlen, ul, List.drop_length, qB]
 have hi' : i < n := by omega
 refine ⟨Tryz.call113, fun E vs hS hl => ?_⟩
 obtain ⟨l1, l2⟩ := hl.arr
 rcases vs with ⟨_ | ⟨v0, _ | ⟨v1, _ | ⟨v2, _ | ⟨v3, l⟩⟩⟩⟩⟩ <;> simp only [List.size_toArray, qj, ql, qd, reduceCtorEq, qa] at l1
 have h0 : VR E (.os nl 2 id ver 0 n false) v0 := l2 0 (by simp)
 have h1 : VR E (.int .i64 (i : Int)) v1 := l2 1 (by simp)
 have h2 : VR E (.os true 2 vid vver 0 1 true) v2 := l2 2 (by simp)
 clear l2 hl
 cases h1
 cases h0 with
 | osn => omega
 | os _ _ _ _ _ _ _ a cap hk hc ht hB hp =>
 cases h2 with
 | os _ _ _ _ _ _ _ av capv hkv hcv htv hBv hpv =>
 have := htv rfl; subst this
 obtain ⟨b, hloc, _⟩ := hS.block_of hcs (show 0 < cells.length by omega)
 obtain ⟨vb, hvloc, _⟩ := hS.block_of hv (show 0 < new.length by omega)
 obtain ⟨b', e1, e2, t, m, hsh, hts, hm⟩ := hp _ hloc
 cases e1
 have := e2.resolve_left (by omega); subst this
 obtain ⟨b', e1, e2, tv, mv, hvsh, hvts, hmv⟩ := hpv _ hvloc
 cases e1
 have := e2.resolve_left (by omega); subst this
 by_cases hroom : n + 1 ≤ cap
 · refine (ins_shift hS hcs hlen hone hi' hloc hk hsh hts (by omega) hroom hn hv hnew honev hvid hvloc hkv hvsh hvts (by omega)).mono ?_
   rintro e w ⟨E', rfl, rfl, h3, h4, h5⟩
   obtain ⟨E2, g1, g2, g3, g4⟩ := bump hS hcs hk hloc (by omega) (by simp only [qi, hnew]; omega) h4 h5 h3
   obtain ⟨hS3, hx3⟩ := SR.die g2
   exact ⟨_, _, _, { E2 with n := E2.n + 1 }, rfl, g1, g3.ext hx3, hS3, g4.trans hx3, rfl, rfl⟩
 have hcn : cap = n := by omega
 subst hcn
 refine (ins_grow hS hcs hlen hone hi' hloc hk hsh hts (by omega) hn hv hnew honev hvid hvloc hkv hvsh hvts (by omega)).mono ?_
 rintro e w ⟨E', v, rfl, rfl, h3, h4, h5, hnew'⟩
 have hl' : E'.loc id = some (ver, some b) := by
  have := (h4.at (id := id) (ver := ver) (cs := cells) (by
   have := Store.at_lt hcs
   unfold Store.at at hcs ⊢; rw [qS this]; exact hcs))
  rcases this with ⟨b', e1, _⟩ | ⟨e1, _⟩
  · have := h5.back hk e1; rw [hloc] at this; cases this; exact e1
  rw [e1] at hlen; simp at hlen; omega
 have hn' : ∃ nb, E'.loc σ.length = some (0, some nb) ∧ E.w.heap.size ≤ nb := by
  rcases h4.at (Store.at_new σ 0 _) with ⟨nb, e1, _⟩ | ⟨e1, _⟩
  · refine ⟨nb, e1, Nat.le_of_not_lt fun hlt' => ?_⟩
    obtain ⟨i2, v2, e2⟩ := h5.own _ _ _ e1 hlt'
    exact hnew' i2 v2 nb e2 e1
  have : (cells.take (i * 2) ++ (new ++ cells.drop (i * 2))).length = 0 := by rw [e1]; rfl
  simp only [qi, hnew] at this; omega
 obtain ⟨nb, hn1, hn2⟩ := hn'
 obtain ⟨g1, g2, g3⟩ := SR.swap h4 hlt hl' hn1
 exact ⟨_, _, _, { E' with loc := fun i => if i = id then some (ver + 1, some nb) else if i = σ.length then none else E'.loc i }, rfl, rfl, g3 _ _ _ h3, g1, Ext.swap h5 hS hl' hn1 hn2 hlt, rfl, rfl⟩
end
section
set_option maxRecDepth 8000
set_option maxHeartbeats 1000000
open Go.RowKit AM
structure Ent where
 tag : Int
 id : Nat
 ver : Nat
 trees : List GTree
def Ent.cells (e : Ent) : List AV := [.int .i64 e.tag, .os true 5 e.id e.ver 0 e.trees.length false]
def Ent.val (e : Ent) : GEntry := ⟨e.tag, e.trees⟩
structure Rep (σ : Store) (tid eid ever : Nat) (L : List Ent) : Prop where
 t : Store.at σ tid 0 = some [.int .i64 3, .int .i64 0, .str [], .os true 2 eid ever 0 L.length false, .ds true [] 0 true]
 e : Store.at σ eid ever = some (L.flatMap Ent.cells)
 tr : ∀ x ∈ L, Store.at σ x.id x.ver = some (x.trees.flatMap encGTree)
 nd : (tid :: eid :: L.map Ent.id).Nodup
def YN (es : List GEntry) (f : GField) (x : GTree) : Option (List GEntry × Bool) :=
 (zk es f.fTag).bind fun p =>
 (if p.2 = true then some es else (grd (0 ≤ p.1 ∧ p.1 ≤ (es.length : Int))).bind fun _ => (ZZ (es.length + 1) 32).bind fun _ => some (es.take p.1.toNat ++ ⟨f.fTag, []⟩ :: es.drop p.1.toNat)).bind fun es1 =>
 (wV es1 p.1).bind fun e =>
 (ZZ ((if f.fLabel = 3 then e.fTrees.length else 0) + 1) 80).bind fun _ =>
 some (es1.set p.1.toNat ⟨e.fTag, (if f.fLabel = 3 then e.fTrees else []) ++ [x]⟩, decide ((((if f.fLabel = 3 then e.fTrees else []) ++ [x]).length : Int) ≤ 64))
theorem wQ {σ : Store} {id ver : Nat} {cs : List AV} (h : Store.at σ id ver = some cs) (l : Store) : Store.at (σ ++ l) id ver = some cs := by
 have := Store.at_lt h
 unfold Store.at at h ⊢; rw [qS this]; exact h
theorem xS {σ : Store} {id id' ver : Nat} {cs : List AV} (h : Store.at σ id ver = some cs) (hne : id ≠ id') (o : ZR) : Store.at (σ.set id' o) id ver = some cs := by
 unfold Store.at at h ⊢; rw [ue (fun e => hne e.symm)]; exact h
theorem vam (σ : Store) (cs : List AV) (l : Store) : Store.at (σ ++ .cells 0 cs :: l) σ.length 0 = some cs := by
 unfold Store.at; rw [ui (qu _), uK]; rfl
theorem at_end1 (σ : Store) (o : ZR) (cs : List AV) (l : Store) : Store.at (σ ++ o :: .cells 0 cs :: l) (σ.length + 1) 0 = some cs := by
 unfold Store.at; rw [ui (by omega)]; simp
theorem Rep.app {σ : Store} {tid eid ever : Nat} {L : List Ent} (h : Rep σ tid eid ever L) (l : Store) : Rep (σ ++ l) tid eid ever L :=
 ⟨wQ h.t l, wQ h.e l, fun x hx => wQ (h.tr x hx) l, h.nd⟩
theorem Rep.toldC {σ : Store} {tid eid ever : Nat} {L : List Ent} (h : Rep σ tid eid ever L) (keep : List Nat) (ls : Bool) (f : Nat) (hk : ∀ y ∈ L, ZD keep y.id 0 = none) : (L.flatMap Ent.cells).map (tell σ keep ls (f + 2)) = (L.map Ent.val).flatMap encGEntry := by
 have key : ∀ l : List Ent, (∀ x ∈ l, x ∈ L) → (l.flatMap Ent.cells).map (tell σ keep ls (f + 2)) = (l.map Ent.val).flatMap encGEntry := by
  intro l
  induction l with
  | nil => intro _; rfl
  | cons a l ih =>
   intro hl
   have h1 := h.tr a (hl a (qt ..))
   have h2 := hk a (hl a (qt ..))
   simp only [qT, qD, qG, ih fun x hx => hl x (qs _ hx)]
   congr 1
   simp only [Ent.cells, Ent.val, qG, qw, XB, Zw, h2, h1, z7, cellsGEntry, GEntry.fTag, GEntry.fTrees]
   have hl : (a.trees.flatMap encGTree).length = a.trees.length * 5 := zr E90.len a.trees
   rw [if_pos (by rw [hl]; omega), qy, ← hl, ul, zB]
 exact key L (fun _ h => h)
theorem Rep.told {σ : Store} {tid eid ever : Nat} {L : List Ent} (h : Rep σ tid eid ever L) (nl : Bool) : tell σ [] true 12 (.os nl 2 eid ever 0 L.length false) = .ds true ((L.map Ent.val).flatMap encGEntry) (L.map Ent.val).length false := by
 have hl : (L.flatMap Ent.cells).length = L.length * 2 := by
  clear h
  induction L with
  | nil => rfl
  | cons a l ih => rw [qT, qi, ih]; simp [Ent.cells]; omega
 simp only [Zw, Za, h.e]
 rw [if_pos (by rw [hl]; omega), qy, ← hl, ul, h.toldC [] true 9 (fun _ _ => rfl), ua]
theorem Rep.set_ne {σ : Store} {tid eid ever : Nat} {L : List Ent} (h : Rep σ tid eid ever L) {j : Nat} (hj : j ∉ tid :: eid :: L.map Ent.id) (o : ZR) : Rep (σ.set j o) tid eid ever L := by
 refine ⟨xS h.t (fun e => hj (by rw [← e]; simp)) o, xS h.e (fun e => hj (by rw [← e]; simp)) o, fun x hx => xS (h.tr x hx) (fun e => hj ?_) o, h.nd⟩
 rw [← e]
 exact qs _ (qs _ (uw.2 ⟨x, hx, rfl⟩))
structure Mid (σ τ : Store) (tid eid ever : Nat) (ids : List Nat) (pre post : List Ent) (tag : Int) (av : AV) (trees : List GTree) : Prop where
 t : Store.at τ tid 0 = some [.int .i64 3, .int .i64 0, .str [], .os true 2 eid ever 0 (pre.length + (1 + post.length)) false, .ds true [] 0 true]
 e : Store.at τ eid ever = some (pre.flatMap Ent.cells ++ ([.int .i64 tag, av] ++ post.flatMap Ent.cells))
 tr : ∀ y ∈ pre ++ post, Store.at τ y.id y.ver = some (y.trees.flatMap encGTree)
 nd : (tid :: eid :: (pre ++ post).map Ent.id).Nodup
 c : (av = .ds true [] 0 true ∧ trees = []) ∨ ∃ id ver, av = .os true 5 id ver 0 trees.length false ∧ Store.at τ id ver = some (trees.flatMap encGTree) ∧ id ∉ tid :: eid :: (pre ++ post).map Ent.id ∧ id ∈ ids
 sub : ∀ y ∈ pre ++ post, y.id ∈ ids
 len : σ.length + 2 ≤ τ.length
 fr : ∀ j, j < σ.length → j ∉ tid :: eid :: ids → τ[j]? = σ[j]?
 lt : ∀ j ∈ tid :: eid :: ids, j < σ.length
theorem agr_app {x : List Nat} : ∀ {s : Store} {i : Nat} (l : Store), agr x i s s (s ++ l) = True := by
 intro s
 induction s with
 | nil => intro i l; rfl
 | cons a s ih => intro i l; simp only [qE, agr, ih]; simp
theorem vaj (l : List Ent) : (l.flatMap Ent.cells).length = l.length * 2 := by
 induction l with
 | nil => rfl
 | cons a l ih => rw [qT, qi, ih]; simp [Ent.cells]; omega
theorem cells_one (l : List Ent) : (l.flatMap Ent.cells).all AV.one = true := by
 induction l with
 | nil => rfl
 | cons a l ih => rw [qT, List.all_append, ih]; rfl
theorem split_at {α : Type} {l : List α} {k : Nat} (h : k ≤ l.length) : ∃ a b, l = a ++ b ∧ a.length = k := ⟨l.take k, l.drop k, (un k l).symm, by simp [h]⟩
theorem split_el {α : Type} {l : List α} {k : Nat} (h : k < l.length) : ∃ a x b, l = a ++ x :: b ∧ a.length = k := by
 refine ⟨l.take k, l[k], l.drop (k + 1), ?_, by simp; omega⟩
 rw [← List.drop_eq_getElem_cons h, un]
theorem set_mid {α : Type} (a : List α) (x y : α) (b : List α) : (a ++ x :: b).set a.length y = a ++ y :: b := by
 rw [List.set_append_right _ _ (qu _), uK]; rfl
theorem gc_mid (a b : List AV) (x y : AV) : gc (a ++ ([x, y] ++ b)) (a.length + 1) = y := by
 rw [ZB _ _ _ (by omega), Nat.add_sub_cancel_left]; rfl
theorem set_mid1 (a b : List AV) (x y z : AV) : (a ++ ([x, y] ++ b)).set (a.length + 1) z = a ++ ([x, z] ++ b) := by
 rw [List.set_append_right _ _ (by omega), Nat.add_sub_cancel_left]; rfl
theorem put_at {σ : Store} {tid eid ever : Nat} {L : List Ent} (hR : Rep σ tid eid ever L) (f : GField) (x : GTree) {es' : List GEntry} {b : Bool} (h : YN (L.map Ent.val) f x = some (es', b)) :
 ACalls qh 67 [.op tid 0 0, .agg (encGField f), .agg (cellsGTree x)] σ (fun r σ' => ∃ ever' L', r = .bool b ∧ Rep σ' tid eid ever' L' ∧ L'.map Ent.val = es' ∧
  (∀ y ∈ L', y.id ∈ L.map Ent.id ∨ σ.length ≤ y.id) ∧ σ.length ≤ σ'.length ∧ ∀ j, j < σ.length → j ∉ tid :: eid :: L.map Ent.id → σ'[j]? = σ[j]?) := by
 refine Zs (rs := [.tmp 6]) tok Tryz.func67 rfl Tryz.ntmps67 rfl Tryz.call67 (by simp) ?_
 refine zl [(0, .op tid 0 0), (1, .agg (encGField f)), (2, .agg (cellsGTree x))] ⟨rfl, rfl, rfl, trivial⟩ ?_
 refine rg tok [0, 4, 5, 6] fun K hK => ?_
 simp only [go_sem, qc, qa, qd, reduceCtorEq, encGField, cellsGTree]
 apply hK
 clear hK K
 simp only [qp, qE, qz, qi, qj, ql, qm]
 obtain ⟨σ1, hσ1⟩ : ∃ s, s = σ ++ [.cells 0 [.str f.fName, .int .i64 f.fTag, .int .i64 f.fLabel, .int .i64 f.fType.fKind, .str f.fType.fName],
  .cells 0 [.int .i64 x.fKind, .int .i64 x.fN, .str x.fS, .ds true (qe encGEntry x.fEntries) x.fEntries.length false, .ds true (qe encGRaw x.fRest) x.fRest.length false]] := ⟨_, rfl⟩
 rw [← hσ1]
 have hR1 : Rep σ1 tid eid ever L := hσ1 ▸ hR.app _
 have h4 : Store.at σ1 σ.length 0 = some [.str f.fName, .int .i64 f.fTag, .int .i64 f.fLabel, .int .i64 f.fType.fKind, .str f.fType.fName] := hσ1 ▸ vam _ _ _
 have h5 : Store.at σ1 (σ.length + 1) 0 = some [.int .i64 x.fKind, .int .i64 x.fN, .str x.fS, .ds true (qe encGEntry x.fEntries) x.fEntries.length false, .ds true (qe encGRaw x.fRest) x.fRest.length false] := hσ1 ▸ at_end1 _ _ _ _
 have hn1 : σ1.length = σ.length + 2 := by rw [hσ1]; simp
 have hfr : ∀ j, j < σ.length → σ1[j]? = σ[j]? := fun j hj => by rw [hσ1, qS hj]
 have hlt : ∀ j ∈ tid :: eid :: L.map Ent.id, j < σ.length := by
  intro j hj
  rcases qM.1 hj with rfl | hj
  · exact Store.at_lt hR.t
  rcases qM.1 hj with rfl | hj
  · exact Store.at_lt hR.e
  obtain ⟨y, hy, rfl⟩ := uw.1 hj
  exact Store.at_lt (hR.tr y hy)
 clear hσ1
 unfold YN at h
 obtain ⟨p, hp, h⟩ := bind_some h
 have ht1 := hR1.t
 refine rd [0, 4, 5, 6, 7, 8] fun K hK => ?_
 refine DW.start (T := tab) [.any, .any, .any, .at [], .any, .at [], .eff, .any, .any, .any, .any, .any] [] ?_
 refine DW.runN tok 6 ?_
 simp only [go_sem, qc, qa, qd, reduceCtorEq, ht1, h4]
 refine DW.call rfl rfl rfl ((zk.ok _ _ p hp).lend rfl true 12 (by simp only [qG, qw, go_sem, qa, reduceCtorEq, hR1.told true, XB]; rfl)) ?_
 refine DW.runN tok 5 ?_
 simp only [go_sem, qc, qa, qd, reduceCtorEq]
 refine DW.fin tok (by decide +kernel) rfl ?_
 simp only [zo, upd, qa, reduceIte, yG, xr]
 apply hK
 clear hK K
 obtain ⟨es1, hes1, h⟩ := bind_some h
 obtain ⟨e, he, h⟩ := bind_some h
 obtain ⟨u, hu, h⟩ := bind_some h
 have hg := yd hu
 have hidL : ∀ l : List Ent, (l.map Ent.val).length = l.length := fun l => ua _
 refine xy (fun F τ => F = [(0, AV.op tid 0 0), (4, .op σ.length 0 0), (5, .op (σ.length + 1) 0 0), (6, .bool false), (7, .int .i64 p.1)] ∧ ∃ ever' pre post av, p.1 = (pre.length : Int) ∧ es1 = pre.map Ent.val ++ e :: post.map Ent.val ∧ Mid σ τ tid eid ever' (L.map Ent.id) pre post e.fTag av e.fTrees ∧
  Store.at τ σ.length 0 = some [.str f.fName, .int .i64 f.fTag, .int .i64 f.fLabel, .int .i64 f.fType.fKind, .str f.fType.fName] ∧
  Store.at τ (σ.length + 1) 0 = some [.int .i64 x.fKind, .int .i64 x.fN, .str x.fS, .ds true (qe encGEntry x.fEntries) x.fEntries.length false, .ds true (qe encGRaw x.fRest) x.fRest.length false]) ?_ ?_
 · refine rg tok [0, 4, 5, 6, 7, 21] fun K hK => ?_
   simp only [go_sem, qc, qa, reduceCtorEq]
   apply hK
   clear hK K
   refine zn (b := !p.2) rfl (fun hc => ?_) (fun hc => ?_)
   · have hc' : p.2 = false := by simpa using hc
     rw [xN hc'] at hes1
     obtain ⟨_, h1, hes1⟩ := bind_some hes1
     obtain ⟨_, h2, hes1⟩ := bind_some hes1
     have h1 := wN h1
     have h2 := yd h2
     obtain rfl := Option.some.inj hes1
     obtain ⟨k, hk⟩ : ∃ k : Nat, p.1 = k := ⟨p.1.toNat, by omega⟩
     rw [hk] at he h1 ⊢
     simp only [qX, hidL] at he h1 h2
     have hkl : k ≤ L.length := by omega
     obtain ⟨pre, post, rfl, rfl⟩ := split_at hkl
     have hl2 : (pre ++ post).length = pre.length + post.length := qi
     have e1 : List.take pre.length ((pre ++ post).map Ent.val) = pre.map Ent.val := by rw [qD, ← ua (f := Ent.val), List.take_left]
     have e2 : List.drop pre.length ((pre ++ post).map Ent.val) = post.map Ent.val := by rw [qD, ← ua (f := Ent.val), List.drop_left]
     rw [e1, e2] at he
     have hee : e = ⟨f.fTag, []⟩ := by
      obtain ⟨_, _, _, g3⟩ := wg he
      rw [← g3]; simp
     subst hee
     rw [qX, e1, e2]
     have hc1 : ((pre ++ post).flatMap Ent.cells).take (pre.length * 2) = pre.flatMap Ent.cells := by rw [qV, ← vaj, List.take_left]
     have hc2 : ((pre ++ post).flatMap Ent.cells).drop (pre.length * 2) = post.flatMap Ent.cells := by rw [qV, ← vaj, List.drop_left]
     have htl : (tid < σ1.length) = True := eq_true (by have := hlt tid (by simp); omega)
     have htl2 : (tid < σ.length) = True := eq_true (hlt tid (by simp))
     have hel := hlt eid (by simp)
     have hte : tid ≠ eid := by have := hR1.nd; simp at this; exact this.1.1
     have hins := Insert_at (σ := σ1 ++ [ZR.cells 0 [AV.int .i64 f.fTag, AV.ds true [] 0 true]]) (nl := true) (i := pre.length) (wQ hR1.e _) (vaj _) (cells_one _) (by omega) (by have := of_eq_true h2; omega) (vam σ1 _ []) (new := [AV.int .i64 f.fTag, AV.ds true [] 0 true]) rfl rfl (by omega)
     rw [hc1, hc2] at hins
     obtain ⟨σ2, hσ2⟩ : ∃ s, s = List.set (σ1 ++ [ZR.cells 0 [AV.int .i64 f.fTag, AV.ds true [] 0 true]]) eid (ZR.cells (ever + 1) (pre.flatMap Ent.cells ++ ([AV.int .i64 f.fTag, AV.ds true [] 0 true] ++ post.flatMap Ent.cells))) ++ [ZR.dead] := ⟨_, rfl⟩
     rw [← hσ2] at hins
     have ht2 : Store.at σ2 tid 0 = some [.int .i64 3, .int .i64 0, .str [], .os true 2 eid ever 0 (pre ++ post).length false, .ds true [] 0 true] := by
      rw [hσ2]; exact wQ (xS (wQ hR1.t _) hte _) _
     refine rdE [0, 4, 5, 6, 7] fun K hK => ?_
     refine DW.start (T := tab) [.any, .any, .any, .any, .own 1 [], .any, .any, .at [], .any, .eff, .eff, .any, .any, .eff] [(1, [])] ?_
     refine DW.runN tok 6 ?_
     simp only [go_sem, qc, qa, qd, reduceCtorEq, ht1, htl]
     refine DW.runN tok 4 ?_
     simp only [go_sem, qc, qf, qa, qd, qq, reduceCtorEq, h4, zH, zX, q2, qW, true_and, ub, agr_app]
     refine DW.callS rfl rfl rfl hins (fun m x hm hle => by simp at hm hle; omega) ?_
     refine DW.runN tok 3 ?_
     simp only [go_sem, qc, qf, qa, qd, reduceCtorEq, ht2]
     refine DW.fin tok (by decide +kernel) rfl ?_
     simp only [zo, upd, qa, reduceIte, yG, xr]
     apply hK
     clear hK K
     have hnd := hR1.nd
     have keep : ∀ {j v : Nat} {cs : List AV}, Store.at σ1 j v = some cs → j ≠ eid → j ≠ tid → Store.at (σ2.set tid (.cells 0 [.int .i64 3, .int .i64 0, .str [], .os true 2 eid (ever + 1) 0 ((pre ++ post).length + 1) false, .ds true [] 0 true])) j v = some cs := by
      intro j v cs hj h1 h2
      refine xS ?_ h2 _
      rw [hσ2]; exact wQ (xS (wQ hj _) h1 _) _
     have hnid : ∀ y ∈ pre ++ post, y.id ≠ eid ∧ y.id ≠ tid := by
      intro y hy
      have hm : y.id ∈ (pre ++ post).map Ent.id := uw.2 ⟨y, hy, rfl⟩
      rw [List.nodup_cons, List.nodup_cons] at hnd
      exact ⟨fun e => hnd.2.1 (e ▸ hm), fun e => hnd.1 (qs _ (e ▸ hm))⟩
     simp only [zo]
     refine ⟨_, _, ⟨rfl, ever + 1, pre, post, .ds true [] 0 true, rfl, rfl, ⟨?_, ?_, ?_, hnd, .inl ⟨rfl, rfl⟩, ?_, ?_, ?_, hlt⟩, keep h4 (by omega) (by have := of_eq_true htl2; omega), keep h5 (by omega) (by have := of_eq_true htl2; omega)⟩, .same ⟨rfl, rfl, rfl, rfl, rfl, trivial⟩ rfl⟩
     · have := Store.at_set (ver' := 0) (cs' := [.int .i64 3, .int .i64 0, .str [], .os true 2 eid (ever + 1) 0 ((pre ++ post).length + 1) false, .ds true [] 0 true]) ht2
       rw [this, hl2]
       simp only [Option.some.injEq, List.cons.injEq, AV.os.injEq, true_and, and_true]
       omega
     · refine xS ?_ hte.symm _
       rw [hσ2]; exact wQ (Store.at_set (wQ hR1.e _)) _
     · intro y hy; exact keep (hR1.tr y hy) (hnid y hy).1 (hnid y hy).2
     · intro y hy; exact uw.2 ⟨y, hy, rfl⟩
     · rw [hσ2]; simp; omega
     intro j hj hjn
     simp only [qM, not_or] at hjn
     rw [ue (fun e => hjn.1 e.symm), hσ2, qS (by simp; omega), ue (fun e => hjn.2.1 e.symm), qS (by omega)]
     exact hfr j hj
   have hc' : p.2 = true := by simpa using hc
   rw [if_pos hc'] at hes1
   obtain rfl := Option.some.inj hes1
   obtain ⟨k, hk⟩ : ∃ k : Nat, p.1 = k := ⟨p.1.toNat, by have := (wg he).1; omega⟩
   have he' := he
   rw [hk] at he'
   obtain ⟨g0, g1, g2, g3⟩ := wg he'
   simp only [qX, hidL] at g1 g2 g3
   obtain ⟨pre, a, post, rfl, rfl⟩ := split_el (show k < L.length by omega)
   have hea : e = a.val := by
    rw [← g3]; simp
   subst hea
   refine zd ?_
   simp only [zo]
   refine ⟨_, σ1, ⟨rfl, ever, pre, post, .os true 5 a.id a.ver 0 a.trees.length false, hk, by simp, ⟨?_, ?_, ?_, ?_, ?_, ?_, ?_, ?_, ?_⟩, h4, h5⟩, .same ⟨rfl, rfl, rfl, rfl, rfl, trivial⟩ rfl⟩
   · have := hR1.t
     rw [qi, qj, Nat.add_comm post.length 1] at this; exact this
   · have := hR1.e
     rw [qV, qT] at this; exact this
   · intro y hy
     refine hR1.tr y ?_
     rcases uq.1 hy with h | h
     · exact List.mem_append_left _ h
     exact uE _ (qs _ h)
   · have := hR1.nd
     refine List.Nodup.sublist ?_ this
     refine List.Sublist.cons_cons _ (List.Sublist.cons_cons _ ?_)
     exact (List.Sublist.append_left (List.sublist_cons_self _ _) _).map _
   · refine .inr ⟨a.id, a.ver, rfl, hR1.tr a (by simp), ?_, by simp⟩
     have := hR1.nd
     simp only [qD, qG, List.nodup_cons, qM, uq, List.nodup_append, not_or] at this ⊢
     obtain ⟨⟨h1, h2, h3, h4⟩, ⟨h5, h6, h7⟩, h8, ⟨h9, h10⟩, h11⟩ := this
     exact ⟨fun e => h3 e.symm, fun e => h6 e.symm, fun hm => h11 _ hm _ (.inl rfl) rfl, h9⟩
   · intro y hy
     rcases uq.1 hy with h | h
     · exact uw.2 ⟨y, List.mem_append_left _ h, rfl⟩
     exact uw.2 ⟨y, uE _ (qs _ h), rfl⟩
   · omega
   · intro j hj _; exact hfr j hj
   exact hlt
 clear hes1 hp ht1 hR1 h4 h5 hn1 hfr σ1
 rintro _ τ ⟨rfl, ever1, pre, post, av, hp1, rfl, hM, h4, h5⟩
 rw [hp1] at he h
 simp only [qX] at h
 have hix : wh tab 27 (.os true 2 eid ever1 0 (pre.length + (1 + post.length)) false) (.int .i64 p.1) = some (.op eid ever1 (pre.length * 2)) := by
  rw [hp1]
  simp only [wh, Xa, Y9]
  simp
  omega
 have ht := hM.t
 refine rg tok [4, 5, 6, 9] fun K hK => ?_
 simp only [go_sem, qc, qa, qd, reduceCtorEq, ht, hix]
 apply hK
 clear hK K
 have hcl : (pre.flatMap Ent.cells).length = pre.length * 2 := vaj pre
 refine xy (fun F τ' => F = [(5, AV.op (σ.length + 1) 0 0), (6, .bool false), (9, .op eid ever1 (pre.length * 2))] ∧ ∃ av', Mid σ τ' tid eid ever1 (L.map Ent.id) pre post e.fTag av' (if f.fLabel = 3 then e.fTrees else []) ∧
  Store.at τ' (σ.length + 1) 0 = some [.int .i64 x.fKind, .int .i64 x.fN, .str x.fS, .ds true (qe encGEntry x.fEntries) x.fEntries.length false, .ds true (qe encGRaw x.fRest) x.fRest.length false]) ?_ ?_
 · refine rg tok [5, 6, 9, 43] fun K hK => ?_
   simp only [go_sem, qc, qa, qd, h4]
   apply hK
   clear hK K
   refine zx rfl (fun hc => ?_) (fun hc => ?_)
   · obtain ⟨cs, hcs⟩ : ∃ cs, cs = pre.flatMap Ent.cells ++ ([.int .i64 e.fTag, av] ++ post.flatMap Ent.cells) := ⟨_, rfl⟩
     have hMe := hM.e
     rw [← hcs] at hMe
     have hle : (pre.length * 2 + 1 < cs.length) = True := eq_true (by rw [hcs]; simp only [qi, hcl, qj, ql]; omega)
     have hle' : (pre.length * 2 + 1 + 1 ≤ cs.length) = True := eq_true (by have := of_eq_true hle; omega)
     refine rgE tok [5, 6, 9] fun K hK => ?_
     simp only [go_sem, qc, qa, hMe, hle']
     apply hK
     clear hK K
     have hset : cs.set (pre.length * 2 + 1) (.ds true [] 0 true) = pre.flatMap Ent.cells ++ ([.int .i64 e.fTag, .ds true [] 0 true] ++ post.flatMap Ent.cells) := by
      rw [hcs, ← hcl, set_mid1]
     rw [hset]
     simp only [zo]
     rw [if_neg hc]
     have hnd := hM.nd
     have hlt := hM.lt
     rw [List.nodup_cons, List.nodup_cons] at hnd
     have hte : tid ≠ eid := fun e => hnd.1 (e ▸ qt ..)
     refine ⟨_, _, ⟨rfl, .ds true [] 0 true, ⟨xS hM.t hte _, Store.at_set hM.e, ?_, hM.nd, .inl ⟨rfl, rfl⟩, hM.sub, ?_, ?_, hM.lt⟩, xS h5 ?_ _⟩, .same ⟨rfl, rfl, rfl, trivial⟩ rfl⟩
     · intro y hy
       refine xS (hM.tr y hy) ?_ _
       intro e; exact hnd.2.1 (e ▸ uw.2 ⟨y, hy, rfl⟩)
     · have := hM.len; simpa using this
     · intro j hj hjn
       rw [ue]
       · exact hM.fr j hj hjn
       intro e; exact hjn (e ▸ by simp)
     have := hlt eid (by simp); omega
   refine zd ?_
   simp only [zo]
   rw [if_pos hc]
   exact ⟨_, τ, ⟨rfl, av, hM, h5⟩, .same ⟨rfl, rfl, rfl, trivial⟩ rfl⟩
 clear hM h4 h5 hix ht τ av
 rintro _ τ ⟨rfl, av, hM, h5⟩
 obtain ⟨cs, hcs⟩ : ∃ cs, cs = pre.flatMap Ent.cells ++ ([.int .i64 e.fTag, av] ++ post.flatMap Ent.cells) := ⟨_, rfl⟩
 have hMe := hM.e
 rw [← hcs] at hMe
 have hle : (pre.length * 2 + 1 < cs.length) = True := eq_true (by rw [hcs]; simp only [qi, hcl, qj, ql]; omega)
 have hle' : (pre.length * 2 + 1 + 1 ≤ cs.length) = True := eq_true (by have := of_eq_true hle; omega)
 have hgc : gc cs (pre.length * 2 + 1) = av := by rw [hcs, ← hcl, gc_mid]
 have heid : (eid < τ.length) = True := eq_true (Store.at_lt hMe)
 refine rd [6, 9] fun K hK => ?_
 refine DW.start (T := tab) [.any, .any, .any, .any, .own 1 [], .at [], .eff, .eff, .any, .any, .eff] [(1, [])] ?_
 refine DW.runN tok 6 ?_
 simp only [go_sem, qc, qf, qa, qd, hMe, hle, hgc, heid, h5]
 obtain ⟨xc, hxc⟩ : ∃ xc, xc = [AV.int .i64 x.fKind, .int .i64 x.fN, .str x.fS, .ds true (qe encGEntry x.fEntries) x.fEntries.length false, .ds true (qe encGRaw x.fRest) x.fRest.length false] := ⟨_, rfl⟩
 have hx5 : xc.length = 5 := by rw [hxc]; rfl
 have hx1 : xc.all AV.one = true := by rw [hxc]; rfl
 have hxe : xc = encGTree x := by rw [hxc, yh] <;> rfl
 generalize htr : (if f.fLabel = 3 then e.fTrees else []) = trees at *
 have key : ∃ nid nver τ3, z6 tab 90 90 av (.os true 5 τ.length 0 0 1 true) (τ ++ [.cells 0 xc]) = some (.os true 5 nid nver 0 (trees.length + 1) false, τ3) ∧ Store.at τ3 nid nver = some (trees.flatMap encGTree ++ xc) ∧
  (∀ j v cs, Store.at τ j v = some cs → j ≠ nid → Store.at τ3 j v = some cs) ∧ nid ∉ tid :: eid :: (pre ++ post).map Ent.id ∧ (nid ∈ L.map Ent.id ∨ σ.length ≤ nid) ∧ τ.length ≤ τ3.length ∧ ∀ j, j < σ.length → j ∉ tid :: eid :: L.map Ent.id → τ3[j]? = τ[j]? := by
  have e1 : ym (τ ++ [.cells 0 xc]) 5 (.os true 5 τ.length 0 0 1 true) = some (1, xc) := by
   simp only [ym, vam τ xc []]
   rw [if_pos (by omega), qy, Nat.one_mul, ← hx5, ul]
  rcases hM.c with ⟨rfl, h0⟩ | ⟨id, ver, rfl, h1, h2, h3⟩
  · refine ⟨τ.length + 1, 0, τ ++ [.cells 0 xc] ++ [.cells 0 xc], ?_, ?_, fun j v cs hj _ => wQ (wQ hj _) _, fun hj => ?_, .inr (by have := hM.len; omega), by simp, fun j hj _ => ?_⟩
    · subst h0
      simp only [z6, tab_90, tab_30, e1, yg, hx1, zM, if_true, qi, qj, ql]
      simp
    · subst h0
      simp only [qp, qE, qz]
      exact at_end1 _ _ _ _
    · have : τ.length + 1 < σ.length := hM.lt _ (by
       rcases qM.1 hj with h | h
       · rw [h]; simp
       rcases qM.1 h with h | h
       · rw [h]; simp
       obtain ⟨y, hy, h'⟩ := uw.1 h
       rw [← h']; exact qs _ (qs _ (hM.sub y hy)))
      have := hM.len; omega
    have := hM.len
    rw [qp, qS (by omega)]
  refine ⟨id, ver + 1, List.set (τ ++ [ZR.cells 0 xc]) id (ZR.cells (ver + 1) (trees.flatMap encGTree ++ xc)), ?_, Store.at_set (wQ h1 _), fun j v cs hj hne => xS (wQ hj _) hne _, h2, .inl h3, by simp, fun j hj hjn => ?_⟩
  · have hl : (trees.flatMap encGTree).length = trees.length * 5 := zr E90.len trees
    have hg' : ((trees.length + 1) * 80 ≤ 140737488355328) = True := by
     rw [← htr]
     by_cases hl3 : f.fLabel = 3
     · rw [if_pos hl3]; rw [if_pos hl3] at hg; exact hg
     rw [if_neg hl3]; simp
    simp only [z6, tab_90, tab_30, e1, yg, hx1, zM, wQ h1, hl, hg', and_self, qc, if_true]
  have := hM.len
  rw [ue, qS (by omega)]
  intro e; exact hjn (e ▸ qs _ (qs _ h3))
 obtain ⟨nid, nver, τ3, k1, k2, k3, k4, k5, k6, k7⟩ := key
 have hne : eid ≠ nid := fun e => k4 (e ▸ by simp)
 have hMe3 := k3 _ _ _ hMe hne
 refine DW.runN tok 1 ?_
 simp only [go_sem, qc, qf, qa, qd, qq, zH, zX, q2, qW, true_and, ub, agr_app]
 rw [← hxc]
 refine DW.runN tok 1 ?_
 simp only [go_sem, qc, qf, qa, qd, k1]
 refine DW.runN tok 3 ?_
 simp only [go_sem, qc, qf, qa, qd, hMe3, hle']
 refine DW.fin tok (by decide +kernel) rfl ?_
 simp only [zo, upd, qa, reduceIte, yG, xr]
 apply hK
 clear hK K
 have hset : cs.set (pre.length * 2 + 1) (.os true 5 nid nver 0 (trees.length + 1) false) = pre.flatMap Ent.cells ++ ([.int .i64 e.fTag, .os true 5 nid nver 0 (trees.length + 1) false] ++ post.flatMap Ent.cells) := by
  rw [hcs, ← hcl, set_mid1]
 have hat4 := Store.at_set (ver' := ever1) (cs' := cs.set (pre.length * 2 + 1) (.os true 5 nid nver 0 (trees.length + 1) false)) hMe3
 generalize cs.set (pre.length * 2 + 1) (.os true 5 nid nver 0 (trees.length + 1) false) = cs4 at *
 have hgc4 : gc cs4 (pre.length * 2 + 1) = .os true 5 nid nver 0 (trees.length + 1) false := by rw [hset, ← hcl, gc_mid]
 have hle4 : (pre.length * 2 + 1 < cs4.length) = True := eq_true (by rw [hset]; simp only [qi, hcl, qj, ql]; omega)
 refine rg tok [6] fun K hK => ?_
 simp only [go_sem, qc, qa, hat4, hgc4, hle4]
 apply hK
 clear hK K
 refine yB ?_
 simp only [ZC, yQ, xb, xR, exists_eq_left', go_sem]
 have h' := Option.some.inj h
 obtain ⟨h1, h2⟩ := Prod.mk.inj h'
 have hnd := hM.nd
 have hlt := hM.lt
 rw [List.nodup_cons, List.nodup_cons] at hnd
 have hte : tid ≠ eid := fun e => hnd.1 (e ▸ qt ..)
 have htn : tid ≠ nid := fun e => k4 (e ▸ by simp)
 have hll : (trees ++ [x]).length = trees.length + 1 := by simp
 refine ⟨ever1, pre ++ ⟨e.fTag, nid, nver, trees ++ [x]⟩ :: post, ?_, ⟨?_, ?_, ?_, ?_⟩, ?_, ?_, ?_, ?_⟩
 · rw [← h2, hll]
 · refine xS ?_ hte _
   have := k3 _ _ _ hM.t htn
   rw [this]
   simp only [Option.some.injEq, List.cons.injEq, AV.os.injEq, true_and, and_true, qi, qj]
   omega
 · rw [hat4, hset]
   simp [Ent.cells]
 · intro y hy
   rcases uq.1 hy with hy | hy
   · refine xS (k3 _ _ _ (hM.tr y (List.mem_append_left _ hy)) ?_) ?_ _
     · intro e'; exact k4 (e' ▸ qs _ (qs _ (uw.2 ⟨y, List.mem_append_left _ hy, rfl⟩)))
     intro e'; exact hnd.2.1 (e' ▸ uw.2 ⟨y, List.mem_append_left _ hy, rfl⟩)
   rcases qM.1 hy with rfl | hy
   · refine xS ?_ hne.symm _
     show Store.at τ3 nid nver = some ((trees ++ [x]).flatMap encGTree)
     rw [k2, qV, hxe]; simp
   refine xS (k3 _ _ _ (hM.tr y (uE _ hy)) ?_) ?_ _
   · intro e'; exact k4 (e' ▸ qs _ (qs _ (uw.2 ⟨y, uE _ hy, rfl⟩)))
   intro e'; exact hnd.2.1 (e' ▸ uw.2 ⟨y, uE _ hy, rfl⟩)
 · have hp : (nid :: tid :: eid :: (pre ++ post).map Ent.id).Nodup := List.nodup_cons.2 ⟨k4, hM.nd⟩
   refine (List.Perm.nodup_iff ?_).1 hp
   refine (List.Perm.swap _ _ _).trans (List.Perm.cons _ ((List.Perm.swap _ _ _).trans (List.Perm.cons _ ?_)))
   rw [qD, qD, qG]
   exact (List.perm_middle).symm
 · rw [← h1, ← hidL pre, set_mid]
   simp [Ent.val]
 · intro y hy
   rcases uq.1 hy with hy | hy
   · exact .inl (hM.sub y (List.mem_append_left _ hy))
   rcases qM.1 hy with rfl | hy
   · exact k5
   exact .inl (hM.sub y (uE _ hy))
 · have := hM.len; simp; omega
 intro j hj hjn
 rw [ue (fun e => hjn (by rw [← e]; simp)), k7 j hj hjn]
 exact hM.fr j hj hjn
end
section
set_option maxRecDepth 8000
set_option maxHeartbeats 1000000
open Go.RowKit AM
def wB (m : GMessage) : List GEntry → Option (List GEntry)
 | [] => some []
 | e :: l => (xh e m).bind fun b => (wB m l).bind fun l' => some (if b = true then l' else e :: l')
theorem idx_del (m : GMessage) : ∀ (es : List GEntry) (x : Int) (es' : List GEntry), wB m es = some es' →
 ∃ r, zt.l4 m es x = some r ∧ ((r = -1 ∧ es' = es) ∨ ∃ pre e post post', es = pre ++ e :: post ∧ r = x + pre.length ∧ wB m post = some post' ∧ es' = pre ++ post') := by
 intro es
 induction es with
 | nil => intro x es' h; cases h; exact ⟨-1, rfl, .inl ⟨rfl, rfl⟩⟩
 | cons e l ih =>
  intro x es' h
  simp only [wB] at h
  obtain ⟨b, hb, h⟩ := bind_some h
  obtain ⟨l', hl, h⟩ := bind_some h
  obtain rfl := Option.some.inj h
  simp only [zt.l4, hb, qg]
  cases b with
  | true => exact ⟨x, rfl, .inr ⟨[], e, l, l', rfl, by simp, hl, rfl⟩⟩
  | false =>
   obtain ⟨r, h1, h2⟩ := ih (x + 1) l' hl
   refine ⟨r, h1, ?_⟩
   rcases h2 with ⟨rfl, rfl⟩ | ⟨pre, e2, post, post', rfl, rfl, h3, rfl⟩
   · exact .inl ⟨rfl, rfl⟩
   exact .inr ⟨e :: pre, e2, post, post', rfl, by simp; omega, h3, rfl⟩
theorem tell_fn {σ : Store} {keep : List Nat} {ls : Bool} {f : Nat} {g : Fn} {a b : List AV} : tell σ keep ls (f + 1) (.fn g a b) = .fn g (a.map (tell σ keep ls f)) (b.map (tell σ keep ls f)) := rfl
theorem tell_msg {σ : Store} {keep : List Nat} {f : Nat} {g : Fn} {m : GMessage} : tell σ keep true (f + 1 + 1 + 1) (.fn g [] [.dp (encGMessage m) 0]) = .fn g [] [.dp (encGMessage m) 0] := by
 simp only [tell_fn, qw, qG, tell_dp, encGMessage, XA, YX, zB, qK, qH, qL]
theorem vbm (n : Nat) : (zX [AV.int .i64 0, .ds true [] 0 true] n).all AV.one = true := by
 rw [uc]
 intro x hx
 obtain ⟨k, _, rfl⟩ := uw.1 hx
 have : k % 2 = 0 ∨ k % 2 = 1 := by omega
 rcases this with h | h <;> simp [h, AV.one, gc]
theorem DeleteFunc_at {σ : Store} {id ver : Nat} {nl : Bool} {es es' : List GEntry} (m : GMessage) (hcs : Store.at σ id ver = some (es.flatMap encGEntry)) (h : wB m es = some es') (hB : es.length ≤ 1000000000000000) :
 ACalls qh 68 [.os nl 2 id ver 0 es.length false, .fn (.func 69) [] [.dp (encGMessage m) 0]] σ (fun r σ' => ∃ cs g, r = .os nl 2 id ver 0 es'.length false ∧ σ' = List.set σ id (.cells ver (es'.flatMap encGEntry ++ cs)) ++ g) := by
 obtain ⟨r, hr, hcase⟩ := idx_del m es 0 es' h
 refine Zs (rs := [.tmp 4]) tok Tryz.func68 rfl Tryz.ntmps68 rfl Tryz.call68 (by simp) ?_
 refine zl [(0, .os nl 2 id ver 0 es.length false), (1, .fn (.func 69) [] [.dp (encGMessage m) 0])] ⟨rfl, rfl, trivial⟩ ?_
 refine rg tok [0, 1] fun K hK => ?_
 simp only [go_sem, qc, qa, reduceCtorEq]
 apply hK
 clear hK K
 have htold : tell σ [] true 12 (.os nl 2 id ver 0 es.length false) = .ds true (es.flatMap encGEntry) es.length false := by
  have hl : (es.flatMap encGEntry).length = es.length * 2 := zr E27.len es
  simp only [Zw, Za, hcs]
  rw [if_pos (by rw [hl]; omega), qy, ← hl, ul, zB]
 refine rc [0, 1, 5] fun K hK => ?_
 refine zj tok 2 ?_
 simp only [go_sem, qc, qa, reduceCtorEq]
 refine wJ rfl rfl rfl ((zt.ok es m r hr).lend rfl true 12 (by simp only [qG, qw, go_sem, qa, reduceCtorEq, htold, tell_msg])) ?_
 rintro _ _ ⟨rfl, hσ⟩
 rw [hσ]; clear hσ
 refine zj tok 1 ?_
 simp only [go_sem, qc, qa, reduceCtorEq]
 refine zb ?_
 simp only [zo, upd, qa, reduceIte, yG, xr]
 apply hK
 clear hK K
 refine za fun Z hZ => ?_
 refine rg tok [0, 1, 5, 12] fun K hK => ?_
 simp only [go_sem, qc, qa, reduceCtorEq]
 apply hK
 clear hK K
 refine zx rfl (fun hc => ?_) (fun hc => ?_)
 · have he : es' = es := by
    rcases hcase with ⟨_, h⟩ | ⟨pre, e, post, post', _, h2, _⟩
    · exact h
    omega
   subst he
   refine rg tok [4] fun K hK => ?_
   simp only [go_sem, qc, qa, reduceCtorEq]
   apply hK
   clear hK K
   refine yB ?_
   simp only [ZC, yQ, xb, xR, exists_eq_left', go_sem]
   exact ⟨[], [], by rw [qB, qB, Store.set_at hcs]⟩
 obtain ⟨pre, e, post, post', he, h2, h3, h4⟩ : ∃ pre e post post', es = pre ++ e :: post ∧ r = 0 + (pre.length : Int) ∧ wB m post = some post' ∧ es' = pre ++ post' := by
  rcases hcase with ⟨h, _⟩ | h
  · exact absurd h hc
  exact h
 rw [Int.zero_add] at h2
 subst h2
 have hl0 : es.length = pre.length + (post.length + 1) := by rw [he]; simp
 refine zd ?_
 refine hZ _ _ ?_
 clear hZ Z
 have hw1 : IntKind.i64.wrap ((pre.length : Int) + 1) = (pre.length : Int) + 1 := by rw [IntKind.wrap_i64]; omega
 refine za fun Z hZ => ?_
 refine rg tok [0, 1, 5, 6] fun K hK => ?_
 simp only [go_sem, qc, qa, reduceCtorEq, hw1]
 apply hK
 clear hK K
 refine ze ?_
 refine zq (fun k F τ => ∃ (cur kept rest rest' : List GEntry) (j : Nat) (g : Store), k = rest.length ∧ F = [(0, AV.os nl 2 id ver 0 es.length false), (1, .fn (.func 69) [] [.dp (encGMessage m) 0]), (5, .int .i64 (kept.length : Int)), (6, .int .i64 (j : Int))] ∧
  τ = List.set σ id (.cells ver (cur.flatMap encGEntry)) ++ g ∧ cur.length = es.length ∧ cur.take kept.length = kept ∧ cur.drop j = rest ∧ j + rest.length = es.length ∧ kept.length < j ∧ wB m rest = some rest' ∧ es' = kept ++ rest') post.length
  ⟨es, pre, post, post', pre.length + 1, [], rfl, rfl, by rw [Store.set_at hcs, qB], rfl, by rw [he, List.take_left], by rw [he, ← List.drop_drop, List.drop_left]; rfl, by omega, by omega, h3, h4⟩ (.same ⟨rfl, rfl, rfl, rfl, trivial⟩ rfl) ?_
 rintro k _ _ ⟨cur, kept, rest, rest', j, g, rfl, rfl, rfl, c1, c2, c3, c4, c5, c6, c7⟩
 have hat : Store.at (List.set σ id (.cells ver (cur.flatMap encGEntry)) ++ g) id ver = some (cur.flatMap encGEntry) := wQ (Store.at_set hcs) _
 obtain ⟨τ, hτ⟩ : ∃ τ, τ = List.set σ id (.cells ver (cur.flatMap encGEntry)) ++ g := ⟨_, rfl⟩
 rw [← hτ] at hat ⊢
 refine za fun Y hY => ?_
 refine rg tok [0, 1, 5, 6, 19] fun K hK => ?_
 simp only [go_sem, qc, qa, reduceCtorEq]
 apply hK
 clear hK K
 refine zx rfl (fun hc => ?_) (fun hc => ?_)
 · refine zd ?_
   refine hY _ _ ?_
   clear hY Y
   rcases rest with _ | ⟨e2, rest⟩
   · simp only [ql] at c4; omega
   simp only [wB] at c6
   obtain ⟨b, hb, c6⟩ := bind_some c6
   obtain ⟨l', hl', c6⟩ := bind_some c6
   obtain rfl := Option.some.inj c6
   simp only [qj] at c4
   have hx : wV cur (j : Int) = some e2 := by
    unfold wV
    rw [if_pos (by omega), qX]
    have : (cur.drop j)[0]? = some e2 := by rw [c3]; rfl
    rwa [List.getElem?_drop, uQ] at this
   have hcd : cur.drop (j + 1) = rest := by rw [← List.drop_drop, c3]; rfl
   have hw6 : IntKind.i64.wrap ((j : Int) + 1) = ((j + 1 : Nat) : Int) := by rw [IntKind.wrap_i64]; omega
   have hix := E27.idxO hx nl false .i64 2 id ver
   rw [c1] at hix
   have hrd := E27.rdO hx
   refine za fun X hX => ?_
   have fin : ∀ (cur' kept' : List GEntry) (F : Fr) (τ' : Store), Fits F [(0, AV.os nl 2 id ver 0 es.length false), (1, .fn (.func 69) [] [.dp (encGMessage m) 0]), (5, .int .i64 (kept'.length : Int)), (6, .int .i64 (j : Int))] → (∃ g', τ' = List.set σ id (.cells ver (cur'.flatMap encGEntry)) ++ g') → cur'.length = es.length → cur'.take kept'.length = kept' → cur'.drop (j + 1) = rest → kept'.length < j + 1 → es' = kept' ++ l' →
    X F τ' := by
    rintro cur' kept' F _ hF ⟨g', rfl⟩ d1 d2 d3 d4 d5
    refine hX _ _ (zU (.same hF rfl) ?_)
    refine rgE tok [0, 1, 5, 6] fun K hK => ?_
    simp only [go_sem, qc, qa, reduceCtorEq, hw6]
    apply hK
    clear hK K
    simp only [zo]
    exact ⟨rest.length, _, _, by simp, ⟨cur', kept', rest, l', j + 1, g', rfl, rfl, rfl, d1, d2, d3, by omega, by omega, hl', d5⟩, .same ⟨rfl, rfl, rfl, rfl, trivial⟩ rfl⟩
   clear hX
   have hae : ∀ cs, Store.at (τ ++ [.cells 0 cs]) τ.length 0 = some cs := fun cs => vam τ cs []
   have hse : ∀ cs cs', (τ ++ [ZR.cells 0 cs]).set τ.length (.cells 0 cs') = τ ++ [.cells 0 cs'] := fun cs cs' => set_mid τ _ _ []
   have hw5 : IntKind.i64.wrap ((kept.length : Int) + 1) = ((kept.length + 1 : Nat) : Int) := by rw [IntKind.wrap_i64]; omega
   refine ze ?_
   refine rg tok [0, 1, 5, 6, 7] fun K hK => ?_
   simp only [go_sem, qc, qf, qa, qd, reduceCtorEq, hat, hix, hrd, z7, cellsGEntry, hae, hse, qj, ql, uv, uO]
   apply hK
   clear hK K
   refine rc [0, 5, 6, 7, 1, 29] fun K hK => ?_
   refine zj tok 2 ?_
   simp only [go_sem, qc, qf, qa, qd, reduceCtorEq, hae, qj, ql]
   refine wJ rfl rfl rfl (xh.ev e2 m b hb _) ?_
   rintro _ _ ⟨rfl, hσ⟩
   rw [hσ]; clear hσ
   refine zj tok 1 ?_
   simp only [go_sem, qc, qa, reduceCtorEq]
   refine zb ?_
   simp only [zo, upd, qa, reduceIte, yG, xr]
   apply hK
   clear hK K
   cases b with
   | true =>
    refine zm rfl ?_
    refine zd ?_
    simp only [Yd, zo]
    exact fin cur kept _ _ ⟨rfl, rfl, rfl, rfl, trivial⟩ ⟨g ++ [.cells 0 [.int .i64 e2.fTag, .ds true (qe encGTree e2.fTrees) e2.fTrees.length false]], by rw [hτ, qp]⟩ c1 c2 hcd (by omega) c7
   | false =>
    refine zp rfl ?_
    have hkl : kept.length < cur.length := by omega
    have hx2 : wV cur (kept.length : Int) = some cur[kept.length] := by
     unfold wV
     rw [if_pos (by omega), qX, qZ hkl]
    have hix2 := E27.idxO hx2 nl false .i64 2 id ver
    rw [c1] at hix2
    have hsc := E27.stOc hx2
    have hsr := E27.stOr hx2 (y := e2) (cs := [.int .i64 e2.fTag, .ds true (qe encGTree e2.fTrees) e2.fTrees.length false]) (by rw [z7] <;> rfl)
    simp only [yX] at hsr
    have hat1 : Store.at (τ ++ [.cells 0 [.int .i64 e2.fTag, .ds true (qe encGTree e2.fTrees) e2.fTrees.length false]]) id ver = some (cur.flatMap encGEntry) := wQ hat _
    refine rg tok [0, 1, 5, 6] fun K hK => ?_
    simp only [go_sem, qc, qf, qa, qd, reduceCtorEq, hae, hix2, hsc, hsr, hat1, qj, ql]
    apply hK
    clear hK K
    refine rgE tok [0, 1, 5, 6] fun K hK => ?_
    simp only [go_sem, qc, qa, reduceCtorEq, hw5]
    apply hK
    clear hK K
    simp only [Yd, zo]
    have hlen : (kept ++ [e2]).length = kept.length + 1 := by simp
    refine fin (setI cur (kept.length : Int) e2) (kept ++ [e2]) _ _ ⟨rfl, rfl, by rw [hlen]; rfl, rfl, trivial⟩ ⟨g ++ [.cells 0 [.int .i64 e2.fTag, .ds true (qe encGTree e2.fTrees) e2.fTrees.length false]], ?_⟩ ?_ ?_ ?_ (by rw [hlen]; omega) (by rw [c7]; simp)
    · rw [hτ, qp, List.set_append_left _ _ (by simpa using Store.at_lt hcs), List.set_set]
    · rw [wH]; exact c1
    · rw [hlen]
      unfold setI
      rw [qX, List.take_set, List.take_add_one, c2, qZ hkl]
      simp
    unfold setI
    rw [qX, List.drop_set_of_lt (by omega)]
    exact hcd
 refine zv ?_
 simp only [go_sem]
 have hr0 : rest = [] := qF.1 (by omega)
 subst hr0
 cases c6
 rw [qB] at c7
 subst c7
 simp only [ql, uQ] at c4
 have hkn : es'.length < es.length := by omega
 have hsl1 : wy tab 27 (.os nl 2 id ver 0 es.length false) (some (.int .i64 (es'.length : Int))) none none = some (.os nl 2 id ver (es'.length * 2) (es.length - es'.length) false) := by
  simp only [wy, Xa, Y9, vaR]
  simp
  omega
 have hsl2 : wy tab 27 (.os nl 2 id ver 0 es.length false) none (some (.int .i64 (es'.length : Int))) none = some (.os nl 2 id ver 0 es'.length false) := by
  simp only [wy, Xa, Y9, vaR]
  simp
  omega
 have hcl : (cur.flatMap encGEntry).length = es.length * 2 := by rw [← c1]; exact zr E27.len cur
 have hzl : ∀ n, (zX [AV.int .i64 0, .ds true [] 0 true] n).length = n := fun n => by simp [zX]
 have hsr : yX (cur.flatMap encGEntry) (es'.length * 2) (zX [AV.int .i64 0, .ds true [] 0 true] ((es.length - es'.length) * 2)) = es'.flatMap encGEntry ++ zX [AV.int .i64 0, .ds true [] 0 true] ((es.length - es'.length) * 2) := by
  have e0 : cur.flatMap encGEntry = es'.flatMap encGEntry ++ ((cur.drop es'.length).flatMap encGEntry ++ []) := by
   rw [qB, ← qV]
   congr 1
   conv => lhs; rw [← un es'.length cur, c2]
  have l1 : (es'.flatMap encGEntry).length = es'.length * 2 := zr E27.len _
  rw [e0, ← l1, ZF _ _ _ _ (by rw [hzl, zr E27.len, uH, c1]), qB]
 have hclr : vbZ tab 27 (.os nl 2 id ver (es'.length * 2) (es.length - es'.length) false) τ = some (.tup [], τ.set id (.cells ver (es'.flatMap encGEntry ++ zX [AV.int .i64 0, .ds true [] 0 true] ((es.length - es'.length) * 2)))) := by
  have hp : w8 τ (.os nl 2 id ver (es'.length * 2) (es.length - es'.length) false) (es.length - es'.length) 2 (zX [AV.int .i64 0, .ds true [] 0 true] ((es.length - es'.length) * 2)) = some (τ.set id (.cells ver (es'.flatMap encGEntry ++ zX [AV.int .i64 0, .ds true [] 0 true] ((es.length - es'.length) * 2)))) := by
   unfold w8
   rw [if_neg (by omega)]
   simp only [hat]
   rw [if_pos ⟨trivial, by rw [hzl, hcl, ← uS]; exact q1 _ (by omega), vbm _⟩, hsr]
  simp only [vbZ, Xa, Y9, AV.cells, hp]
  simp [AV.okc, AV.one]
 refine hZ _ _ ?_
 refine rg tok [0, 5] fun K hK => ?_
 simp only [go_sem, qc, qa, reduceCtorEq, hsl1, hclr]
 apply hK
 clear hK K
 refine rg tok [4] fun K hK => ?_
 simp only [go_sem, qc, qa, reduceCtorEq, hsl2]
 apply hK
 clear hK K
 refine yB ?_
 simp only [ZC, yQ, xb, xR, exists_eq_left', go_sem]
 refine ⟨zX [AV.int .i64 0, .ds true [] 0 true] ((es.length - es'.length) * 2), g, ?_⟩
 rw [hτ, List.set_append_left _ _ (by simpa using Store.at_lt hcs), List.set_set]
end
section
set_option maxRecDepth 8000
set_option maxHeartbeats 1000000
open Go.RowKit AM
def zy.l (yO : GSchema → GType → GRaw → Int → Option (GTree × Int)) (a0 : GSchema) (a1 : GMessage) (a3 : Int) : List GRaw → List GEntry → List GRaw → Option (GTree × Int)
 | [], es, rest => (ZZ es.length 32).bind fun _ => (wB a1 es).bind fun es' => (zN rest).bind fun r => some ((⟨3, 0, [], es', r⟩ : GTree), 0)
 | r :: q, es, rest => bnd (zi a1 r.fTag) fun f => (if f.2 = true then (yO a0 f.1.fType r a3).bind fun x => (if x.2 = 0 then (YN es f.1 x.1).bind fun p => (if p.2 = true then zy.l yO a0 a1 a3 q p.1 rest else some ((⟨0, 0, [], [], []⟩ : GTree), 4)) else some ((⟨0, 0, [], [], []⟩ : GTree), x.2))
  else (ZZ (rest.length + 1) 40).bind fun _ => zy.l yO a0 a1 a3 q es (rest ++ [r]))
def zy.body (zC : GSchema → GMessage → List UInt8 → Int → Option (GTree × Int)) (yO : GSchema → GType → GRaw → Int → Option (GTree × Int)) (a0 : GSchema) (a1 : GMessage) (a2 : List UInt8) (a3 : Int) : Option (GTree × Int) :=
 if 10 < a3 then some ((⟨0, 0, [], [], []⟩ : GTree), 10) else (xu a2).bind fun g => if g.2 = 0 then zy.l yO a0 a1 a3 g.1 [] [] else some ((⟨0, 0, [], [], []⟩ : GTree), g.2)
structure Loop (τ : Store) (a0 : GSchema) (a1 : GMessage) (ever rver : Nat) (L : List Ent) (rest : List GRaw) : Prop where
 h0 : Store.at τ 0 0 = some (encGSchema a0)
 h1 : Store.at τ 1 0 = some (encGMessage a1)
 h2 : Store.at τ 2 0 = some [.int .i64 0, .int .i64 0, .str [], .ds true [] 0 true, .ds true [] 0 true]
 rep : Rep τ 3 4 ever L
 h5 : Store.at τ 5 rver = some (rest.flatMap encGRaw)
 ids : ∀ y ∈ L, 6 ≤ y.id
theorem Loop.app {τ : Store} {a0 : GSchema} {a1 : GMessage} {ever rver : Nat} {L : List Ent} {rest : List GRaw} (h : Loop τ a0 a1 ever rver L rest) (l : Store) : Loop (τ ++ l) a0 a1 ever rver L rest :=
 ⟨wQ h.h0 l, wQ h.h1 l, wQ h.h2 l, h.rep.app l, wQ h.h5 l, h.ids⟩
theorem XW {σ : Store} {keep : List Nat} {e : Int} : tell σ keep true 12 (.tup [.agg [.int .i64 0, .int .i64 0, .str [], .ds true [] 0 true, .ds true [] 0 true], .int .i64 e]) = .tup [.agg (cellsGTree ⟨0, 0, [], [], []⟩), .int .i64 e] := by
 simp only [tell_tup, qG, qw, tell_agg, XB, XA, YX]
 rfl
theorem zy.step (zC : GSchema → GMessage → List UInt8 → Int → Option (GTree × Int)) (yO : GSchema → GType → GRaw → Int → Option (GTree × Int))
 (Y3 : ∀ (a0 : GSchema) (a1 : GType) (a2 : GRaw) (a3 : Int) (r : GTree × Int), yO a0 a1 a2 a3 = some r → ACalls qh 66 [.agg (encGSchema a0), .agg (encGType a1), .agg (encGRaw a2), .int .i64 a3] [] (fun r' _ => r' = .tup [.agg (cellsGTree r.1), .int .i64 r.2]))
 (a0 : GSchema) (a1 : GMessage) (a2 : List UInt8) (a3 : Int) (r : GTree × Int) (h : zy.body zC yO a0 a1 a2 a3 = some r) :
 ACalls qh 41 [.agg (encGSchema a0), .agg (encGMessage a1), .ds true (qe encB a2) (qb a2) false, .int .i64 a3] [] (fun r' _ => r' = .tup [.agg (cellsGTree r.1), .int .i64 r.2]) := by
 have ev_one := fun a0 a1 a2 a3 r h σ => (Y3 a0 a1 a2 a3 r h).pureAt (by simp only [AV.canon, canonL, canon_all, qU, qx, qK, encGRaw, encGSchema, encGType]) (by simp only [AV.canon, canonL, canon_all, qU, qx, qK, cellsGTree]) σ
 refine zf (rs := [.cell 8 30, .tmp 9]) tok Tryz.func41 rfl Tryz.ntmps41 rfl Tryz.call41 (by simp) ?_
 refine zl [(0, .agg (encGSchema a0)), (1, .agg (encGMessage a1)), (2, .ds true (qe encB a2) (qb a2) false), (3, .int .i64 a3)] ⟨rfl, rfl, rfl, rfl, trivial⟩ ?_
 unfold zy.body at h
 refine rg tok [2, 3, 4, 5, 8, 9] fun K hK => ?_
 simp only [go_sem, qc, qa, qd, reduceCtorEq, encGSchema, encGMessage]
 apply hK
 clear hK K
 refine za fun Z hZ => ?_
 refine rg tok [2, 3, 4, 5, 8, 9, 21] fun K hK => ?_
 simp only [go_sem, qc, qa]
 apply hK
 clear hK K
 refine zx rfl (fun hc => ?_) (fun hc => ?_)
 · rw [if_pos hc] at h
   obtain rfl := Option.some.inj h
   refine rg tok [8, 9] fun K hK => ?_
   simp only [go_sem, qc, qf, qa, qd]
   apply hK
   clear hK K
   refine yB ?_
   simp only [ZC, yQ, xb, xR, exists_eq_left', go_sem, qf, qa, qd]
   exact XW
 rw [if_neg hc] at h
 obtain ⟨g, hg, h⟩ := bind_some h
 refine zd ?_
 refine hZ _ _ ?_
 clear hZ Z
 refine rc [3, 4, 5, 8, 9, 10, 11] fun K hK => ?_
 refine zj tok 1 ?_
 simp only [go_sem, qc, qa]
 refine wJ rfl rfl rfl (xu.ev a2 g hg _) ?_
 rintro _ _ ⟨rfl, hσ⟩
 rw [hσ]; clear hσ
 refine zj tok 5 ?_
 simp only [go_sem, qc, qa, qd]
 refine zb ?_
 simp only [zo, upd, qa, reduceIte, yG, xr]
 apply hK
 clear hK K
 refine za fun Z hZ => ?_
 refine rg tok [3, 4, 5, 8, 9, 10, 11, 29] fun K hK => ?_
 simp only [go_sem, qc, qa]
 apply hK
 clear hK K
 refine zx rfl (fun hc2 => ?_) (fun hc2 => ?_)
 · rw [if_neg hc2] at h
   obtain rfl := Option.some.inj h
   refine rg tok [8, 9] fun K hK => ?_
   simp only [go_sem, qc, qf, qa, qd]
   apply hK
   clear hK K
   refine yB ?_
   simp only [ZC, yQ, xb, xR, exists_eq_left', go_sem, qf, qa, qd]
   exact XW
 rw [if_pos hc2] at h
 refine zd ?_
 refine hZ _ _ ?_
 clear hZ Z
 refine rg tok [3, 4, 5, 8, 9, 10, 12] fun K hK => ?_
 simp only [go_sem, qc, qf, qa, qd]
 apply hK
 clear hK K
 refine Zr 3 3 2 rfl (by simp) rfl (L := [(3, .int .i64 a3), (4, .op 0 0 0), (5, .op 1 0 0), (8, .op 2 0 0), (9, .int .i64 0), (10, .ds true (qe encGRaw g.1) (qb g.1) false), (12, .op 3 0 0)]) (.same ⟨rfl, rfl, rfl, rfl, rfl, rfl, rfl, trivial⟩ rfl) ?_
 refine rg tok [3, 4, 5, 8, 9, 10, 12, 13] fun K hK => ?_
 simp only [go_sem, qc, qa, qd]
 apply hK
 clear hK K
 refine wC 13 4 rfl ?_
 refine zU (L := [(3, .int .i64 a3), (4, .op 0 0 0), (5, .op 1 0 0), (8, .op 2 0 0), (9, .int .i64 0), (10, .ds true (qe encGRaw g.1) (qb g.1) false), (12, .op 3 0 0), (13, .os true 4 5 0 0 0 false)]) (.same ⟨rfl, rfl, rfl, rfl, rfl, rfl, rfl, rfl, trivial⟩ rfl) ?_
 refine za fun Z hZ => ?_
 refine yP 10 fun hb => ?_
 replace hb : qb g.1 ≤ 9223372036854775807 := hb.1
 refine rg tok [3, 4, 5, 8, 9, 12, 13, 33, 34, 35] fun K hK => ?_
 simp only [go_sem, qc, qa]
 apply hK
 clear hK K
 refine ze ?_
 refine zq (fun k F τ => ∃ (p q : List GRaw) (i : Int) (L : List Ent) (rest : List GRaw) (ever rver : Nat), k = q.length ∧ F = [(3, AV.int .i64 a3), (4, .op 0 0 0), (5, .op 1 0 0), (8, .op 2 0 0), (9, .int .i64 0), (12, .op 3 0 0), (13, .os true 4 5 rver 0 rest.length false), (33, .ds true (qe encGRaw g.1) (qb g.1) false), (34, .int .i64 (qb g.1 : Int)), (35, .int .i64 i)] ∧ Loop τ a0 a1 ever rver L rest ∧ g.1 = p ++ q ∧ i = (p.length : Int) ∧ zy.l yO a0 a1 a3 q (L.map Ent.val) rest = some r) g.1.length
  ⟨[], g.1, 0, [], [], 0, 0, rfl, rfl, ⟨rfl, rfl, rfl, ⟨rfl, rfl, fun _ h => (by cases h), by simp⟩, rfl, fun _ h => (by cases h)⟩, rfl, rfl, h⟩ (.same ⟨rfl, rfl, rfl, rfl, rfl, rfl, rfl, rfl, rfl, rfl, trivial⟩ rfl) ?_
 clear h
 rintro k _ τ ⟨p, q, i, L, rest, ever, rver, rfl, rfl, hL, hE, hi, h⟩
 refine rg tok [3, 4, 5, 8, 9, 12, 13, 33, 34, 35, 36] fun K hK => ?_
 simp only [go_sem, qc, qa]
 apply hK
 clear hK K
 refine za fun Y hY => ?_
 rcases q with _ | ⟨y, q⟩
 · have hz := yl hE hi
   refine zx rfl (fun hc => absurd hc (by rw [hz]; exact id)) (fun _ => ?_)
   refine zv ?_
   simp only [zo, go_sem]
   simp only [zy.l] at h
   obtain ⟨u, hu, h⟩ := bind_some h
   have hrm := of_eq_true (yd hu)
   obtain ⟨es', hes, h⟩ := bind_some h
   obtain ⟨rr, hrr, h⟩ := bind_some h
   obtain rfl := Option.some.inj h
   have hid : ∀ y ∈ L, ZD [2, 3, 4] y.id 0 = none := by
    intro y hy
    have := hL.ids y hy
    simp only [Zg, Za]
    rw [if_neg (by omega), if_neg (by omega), if_neg (by omega)]
   have hget : ∀ {j v : Nat} {cs : List AV}, Store.at τ j v = some cs → τ.getD j .dead = .cells v cs := by
    intro j v cs hj
    rw [qv, Store.at_some hj]; rfl
   have hl4 : (rest.flatMap encGRaw).length = rest.length * 4 := zr E28.len rest
   have hcells := hL.rep.toldC [2, 3, 4] false 10 hid
   have htS : tellS τ [2, 3, 4] false 12 = [.cells 0 [.int .i64 0, .int .i64 0, .str [], .ds true [] 0 true, .ds true [] 0 true], .cells 0 [.int .i64 3, .int .i64 0, .str [], .os true 2 2 ever 0 (L.map Ent.val).length false, .ds true [] 0 true], .cells ever ((L.map Ent.val).flatMap encGEntry)] := by
    simp only [tellS, qG, qw, hget hL.h2, hget hL.rep.t, hget hL.rep.e, Xh, XB, XA, YX, Zw, Zg, Za, qa, if_true, if_false, hcells, ua, qR, qx, qN, qd]
   have hrest : tell τ [2, 3, 4] false 12 (.os true 4 5 rver 0 rest.length false) = .ds true (rest.flatMap encGRaw) rest.length false := by
    simp only [Zw, Zg, Za, qa, if_false, hL.h5]
    rw [if_pos (by rw [hl4]; omega), qy, ← hl4, ul, zB]
   have hmsg : tell τ [2, 3, 4] false 12 (.op 1 0 0) = .dp (encGMessage a1) 0 := by
    simp only [tell_op, Zg, Za, qa, if_false, hL.h1, encGMessage, qG, qw, XA, YX, zB, qR, qx, qN]
   have hk3 : [2, 3, 4].Nodup := by decide
   have hlt5 := Store.at_lt hL.h5
   refine hZ _ _ ?_
   refine zU (L := [(5, .dp (encGMessage a1) 0), (8, .op 0 0 0), (12, .op 1 0 0), (13, .ds true (rest.flatMap encGRaw) rest.length false)]) (.told [2, 3, 4] false hk3 (by intro id hid'; simp at hid'; omega) rfl htS ⟨hmsg, rfl, rfl, hrest, trivial⟩) ?_
   refine rc [8, 12, 13] fun K hK => ?_
   refine zj tok 3 ?_
   simp only [go_sem, qc, qa, qd, ua]
   have hdel := DeleteFunc_at (σ := [.cells 0 [.int .i64 0, .int .i64 0, .str [], .ds true [] 0 true, .ds true [] 0 true], .cells 0 [.int .i64 3, .int .i64 0, .str [], .os true 2 2 ever 0 L.length false, .ds true [] 0 true], .cells ever ((L.map Ent.val).flatMap encGEntry)]) (id := 2) (ver := ever) (nl := true) a1 (by simp only [Store.at_hd, Store.at_tl, if_true]) hes (by omega)
   rw [ua] at hdel
   refine wJ rfl rfl rfl hdel ?_
   rintro _ _ ⟨cs, g', rfl, rfl⟩
   refine zj tok 2 ?_
   simp only [go_sem, qc, qf, qa, qd, qE, qz, uO, uv]
   refine zb ?_
   simp only [zo, upd, qa, reduceIte, yG, xr]
   apply hK
   clear hK K
   refine rc [8, 12] fun K hK => ?_
   refine zj tok 1 ?_
   simp only [go_sem, qc, qa]
   refine wJ rfl rfl rfl (zN.ev rest rr hrr _) ?_
   rintro _ _ ⟨rfl, hσ⟩
   rw [hσ]; clear hσ
   refine zj tok 2 ?_
   simp only [go_sem, qc, qf, qa, qd, uO, uv]
   refine zb ?_
   simp only [zo, upd, qa, reduceIte, yG, xr]
   apply hK
   clear hK K
   refine rg tok [8, 9] fun K hK => ?_
   simp only [go_sem, qc, qf, qa, qd, uO, uv]
   apply hK
   clear hK K
   refine yB ?_
   simp only [ZC, yQ, xb, xR, exists_eq_left', go_sem, qf, qa, qd]
   have hle : (es'.flatMap encGEntry).length = es'.length * 2 := zr E27.len es'
   simp only [tell_tup, qG, qw, tell_agg, XB, XA, YX, Zw, Za, Store.at_hd, Store.at_tl, if_true, zB, cellsGTree, GTree.fKind, GTree.fN, GTree.fS, GTree.fEntries, GTree.fRest]
   rw [if_pos (by rw [qi, hle]; omega), qy, ← hle, List.take_left, zB]
   rfl
 obtain ⟨hz, hw, hx, hE', hi'⟩ := zW hE hi hb
 refine zx rfl (fun _ => ?_) (fun hc => absurd (of_eq_true hz) hc)
 refine zd ?_
 refine hY _ _ ?_
 clear hY Y
 refine za fun X hX => ?_
 have fin : ∀ (F : Fr) (τ' : Store) (L' : List Ent) (rest' : List GRaw) (ever' rver' : Nat), Fits F [(3, AV.int .i64 a3), (4, .op 0 0 0), (5, .op 1 0 0), (8, .op 2 0 0), (9, .int .i64 0), (12, .op 3 0 0), (13, .os true 4 5 rver' 0 rest'.length false), (33, .ds true (qe encGRaw g.1) (qb g.1) false), (34, .int .i64 (qb g.1 : Int)), (35, .int .i64 i)] → Loop τ' a0 a1 ever' rver' L' rest' → zy.l yO a0 a1 a3 q (L'.map Ent.val) rest' = some r → X F τ' := by
  intro F τ' L' rest' ever' rver' hF hL' h'
  refine hX _ _ (zU (.same hF rfl) ?_)
  refine rgE tok [3, 4, 5, 8, 9, 12, 13, 33, 34, 35] fun K hK => ?_
  simp only [go_sem, qc, qa, hw]
  apply hK
  clear hK K
  simp only [zo]
  exact ⟨q.length, _, _, by simp, ⟨p ++ [y], q, i + 1, L', rest', ever', rver', rfl, rfl, hL', hE', hi', h'⟩, .same ⟨rfl, rfl, rfl, rfl, rfl, rfl, rfl, rfl, rfl, rfl, trivial⟩ rfl⟩
 clear hX
 refine ze ?_
 have hix := E28.idxS hx
 have hld := E28.loadS rfl rfl hx
 have hae : ∀ (τ : Store) cs, Store.at (τ ++ [.cells 0 cs]) τ.length 0 = some cs := fun τ cs => vam τ cs []
 have hse : ∀ (τ : Store) cs cs', (τ ++ [ZR.cells 0 cs]).set τ.length (.cells 0 cs') = τ ++ [.cells 0 cs'] := fun τ cs cs' => set_mid τ _ _ []
 refine rg tok [3, 4, 5, 8, 9, 12, 13, 15, 33, 34, 35] fun K hK => ?_
 simp only [go_sem, qc, qf, qa, qd, hix, hld, encGRaw, hae, hse, qj, ql, uv, uO]
 apply hK
 clear hK K
 simp only [zy.l] at h
 obtain ⟨f, hf, h⟩ := zS h
 have hL1 := hL.app [.cells 0 [.int .i64 y.fTag, .int .i64 y.fWire, .int .i64 y.fN, .str y.fB]]
 have hr1 := vam τ [.int .i64 y.fTag, .int .i64 y.fWire, .int .i64 y.fN, .str y.fB] []
 generalize τ.length = k1 at *
 generalize τ ++ [.cells 0 [.int .i64 y.fTag, .int .i64 y.fWire, .int .i64 y.fN, .str y.fB]] = τ1 at *
 have hm1 := hL1.h1
 have hs1 := hL1.h0
 simp only [encGMessage] at hm1
 simp only [encGSchema] at hs1
 refine rc [3, 4, 5, 8, 9, 12, 13, 15, 16, 17, 33, 34, 35] fun K hK => ?_
 refine zj tok 3 ?_
 simp only [go_sem, qc, qf, qa, qd, hm1, hr1, qj, ql]
 refine wJ rfl rfl rfl (zi.ev a1 y.fTag f hf _) ?_
 rintro _ _ ⟨rfl, hσ⟩
 rw [hσ]; clear hσ
 refine zj tok 6 ?_
 simp only [go_sem, qc, qf, qa, qd, encGField, hae, hse, qj, ql, uv, uO]
 refine zb ?_
 simp only [zo, upd, qa, reduceIte, yG, xr]
 apply hK
 clear hK K
 have hL2 := hL1.app [.cells 0 [.str f.1.fName, .int .i64 f.1.fTag, .int .i64 f.1.fLabel, .int .i64 f.1.fType.fKind, .str f.1.fType.fName]]
 have hr2 := wQ hr1 [.cells 0 [.str f.1.fName, .int .i64 f.1.fTag, .int .i64 f.1.fLabel, .int .i64 f.1.fType.fKind, .str f.1.fType.fName]]
 have hm2 := wQ hs1 [.cells 0 [.str f.1.fName, .int .i64 f.1.fTag, .int .i64 f.1.fLabel, .int .i64 f.1.fType.fKind, .str f.1.fType.fName]]
 have hf2 := vam τ1 [.str f.1.fName, .int .i64 f.1.fTag, .int .i64 f.1.fLabel, .int .i64 f.1.fType.fKind, .str f.1.fType.fName] []
 clear hm1 hs1 hr1
 generalize τ1.length = k2 at *
 generalize τ1 ++ [.cells 0 [.str f.1.fName, .int .i64 f.1.fTag, .int .i64 f.1.fLabel, .int .i64 f.1.fType.fKind, .str f.1.fType.fName]] = τ2 at *
 refine za fun Y hY => ?_
 refine rg tok [3, 4, 5, 8, 9, 12, 13, 15, 16, 17, 33, 34, 35, 47] fun K hK => ?_
 simp only [go_sem, qc, qa]
 apply hK
 clear hK K
 have hb2 : ∀ (b : Bool), (!b) = true → b = false := by decide
 refine zn (b := !f.2) rfl (fun hc3 => ?_) (fun hc3 => ?_)
 · have hc4 : f.2 = false := by simpa using hc3
   rw [xN hc4] at h
   obtain ⟨u, hu, h⟩ := bind_some h
   have hrm := yd hu
   have hL5 := hL2.h5
   have hl4 : (rest.flatMap encGRaw).length = rest.length * 4 := zr E28.len rest
   refine rg tok [3, 4, 5, 8, 9, 12, 13, 33, 34, 35] fun K hK => ?_
   have hlit := vam τ2 [.int .i64 y.fTag, .int .i64 y.fWire, .int .i64 y.fN, .str y.fB] []
   have hat5 := wQ hL5 [.cells 0 [.int .i64 y.fTag, .int .i64 y.fWire, .int .i64 y.fN, .str y.fB]]
   have hap : z6 tab 28 28 (.os true 4 5 rver 0 rest.length false) (.os true 4 τ2.length 0 0 1 true) (τ2 ++ [.cells 0 [.int .i64 y.fTag, .int .i64 y.fWire, .int .i64 y.fN, .str y.fB]]) =
    some (.os true 4 5 (rver + 1) 0 (rest.length + 1) false, List.set (τ2 ++ [.cells 0 [.int .i64 y.fTag, .int .i64 y.fWire, .int .i64 y.fN, .str y.fB]]) 5 (.cells (rver + 1) (rest.flatMap encGRaw ++ [.int .i64 y.fTag, .int .i64 y.fWire, .int .i64 y.fN, .str y.fB]))) := by
    have e1 : ym (τ2 ++ [.cells 0 [.int .i64 y.fTag, .int .i64 y.fWire, .int .i64 y.fN, .str y.fB]]) 4 (.os true 4 τ2.length 0 0 1 true) = some (1, [.int .i64 y.fTag, .int .i64 y.fWire, .int .i64 y.fN, .str y.fB]) := by
     simp only [ym, hlit]; simp
    simp only [z6, tab_28, tab_62, e1, yg, zM, hat5, hl4, hrm]
    simp [AV.one]
   simp only [go_sem, qc, qf, qa, qd, qq, hr2, zH, zX, q2, qW, true_and, ub, qj, ql, hap]
   apply hK
   clear hK K
   refine zv ?_
   simp only [go_sem, reduceCtorEq]
   have hLs : Loop (List.set (τ2 ++ [.cells 0 [.int .i64 y.fTag, .int .i64 y.fWire, .int .i64 y.fN, .str y.fB]]) 5 (.cells (rver + 1) (rest.flatMap encGRaw ++ [.int .i64 y.fTag, .int .i64 y.fWire, .int .i64 y.fN, .str y.fB]))) a0 a1 ever (rver + 1) L (rest ++ [y]) := by
    have hL3 := hL2.app [.cells 0 [.int .i64 y.fTag, .int .i64 y.fWire, .int .i64 y.fN, .str y.fB]]
    refine ⟨xS hL3.h0 (by decide) _, xS hL3.h1 (by decide) _, xS hL3.h2 (by decide) _, hL3.rep.set_ne (fun hm => ?_) _, ?_, hL3.ids⟩
    · simp only [qM, uw] at hm
      rcases hm with h | h | ⟨z, hz, h⟩
      · cases h
      · cases h
      have := hL3.ids z hz; omega
    rw [Store.at_set hL3.h5, qV]
    simp [encGRaw]
   exact fin _ _ L (rest ++ [y]) ever (rver + 1) ⟨rfl, rfl, rfl, rfl, rfl, rfl, by rw [qi]; rfl, rfl, rfl, rfl, trivial⟩ hLs h
 have hc4 : f.2 = true := by simpa using hc3
 rw [if_pos hc4] at h
 refine zd ?_
 refine hY _ _ ?_
 clear hY Y
 obtain ⟨x, hx1, h⟩ := bind_some h
 have hty : AV.agg (encGType f.1.fType) = .agg [.int .i64 f.1.fType.fKind, .str f.1.fType.fName] := rfl
 refine rc [3, 4, 5, 8, 9, 12, 13, 16, 18, 19, 33, 34, 35] fun K hK => ?_
 refine zj tok 5 ?_
 simp only [go_sem, qc, qf, qa, qd, hm2, hr2, hf2, qj, ql, List.drop_succ_cons, qy, List.take_succ_cons, List.take_zero]
 refine wJ rfl rfl rfl (ev_one a0 f.1.fType y a3 x hx1 _) ?_
 rintro _ _ ⟨rfl, hσ⟩
 rw [hσ]; clear hσ
 refine zj tok 6 ?_
 simp only [go_sem, qc, qf, qa, qd, cellsGTree, hae, hse, qj, ql, uv, uO]
 refine zb ?_
 simp only [zo, upd, qa, reduceIte, yG, xr]
 apply hK
 clear hK K hr2 hm2
 obtain ⟨xc, hxc⟩ : ∃ xc, xc = [AV.int .i64 x.1.fKind, .int .i64 x.1.fN, .str x.1.fS, .ds true (qe encGEntry x.1.fEntries) x.1.fEntries.length false, .ds true (qe encGRaw x.1.fRest) x.1.fRest.length false] := ⟨_, rfl⟩
 rw [← hxc]
 have hL3 := hL2.app [.cells 0 xc]
 have hf3 := wQ hf2 [.cells 0 xc]
 have hx3 := vam τ2 xc []
 clear hf2 hL2
 generalize τ2.length = k3 at *
 generalize τ2 ++ [.cells 0 xc] = τ3 at *
 subst hxc
 refine za fun Y hY => ?_
 refine rg tok [3, 4, 5, 8, 9, 12, 13, 16, 18, 19, 33, 34, 35, 62] fun K hK => ?_
 simp only [go_sem, qc, qa]
 apply hK
 clear hK K
 have h23 := hL3.h2
 have h24 := Store.at_set (ver' := 0) (cs' := [.int .i64 0, .int .i64 0, .str [], .ds true [] 0 true, .ds true [] 0 true]) h23
 refine zx rfl (fun hc5 => ?_) (fun hc5 => ?_)
 · rw [if_neg hc5] at h
   obtain rfl := Option.some.inj h
   refine rg tok [8, 9] fun K hK => ?_
   simp only [go_sem, qc, qf, qa, qd, h23, qj, ql, uv, uO]
   apply hK
   clear hK K
   refine yB ?_
   simp only [vb8, ZC, yQ, xb, xR, exists_eq_left', go_sem, qf, qa, qd, h24, qj, ql]
   exact XW
 rw [if_pos hc5] at h
 obtain ⟨pp, hp, h⟩ := bind_some h
 refine zd ?_
 refine hY _ _ ?_
 clear hY Y
 refine rc [3, 4, 5, 8, 9, 12, 13, 33, 34, 35, 68] fun K hK => ?_
 refine zj tok 2 ?_
 simp only [go_sem, qc, qf, qa, qd, hf3, hx3, qj, ql]
 refine wJ rfl rfl rfl (put_at hL3.rep f.1 x.1 (es' := pp.1) (b := pp.2) hp) ?_
 rintro _ τ4 ⟨ever', L', rfl, hR4, he4, hid4, hle4, hfr4⟩
 refine zj tok 1 ?_
 simp only [go_sem, qc, qa]
 refine zb ?_
 simp only [zo, upd, qa, reduceIte, yG, xr]
 apply hK
 clear hK K
 have hkeep : ∀ {j v : Nat} {cs : List AV}, Store.at τ3 j v = some cs → j < 6 → j ≠ 3 → j ≠ 4 → Store.at τ4 j v = some cs := by
  intro j v cs hj h6 h3 h4
  have hlt := Store.at_lt hj
  unfold Store.at at hj ⊢
  rw [hfr4 j hlt (fun hm => ?_)]
  · exact hj
  simp only [qM, uw] at hm
  rcases hm with h | h | ⟨z, hz, h⟩
  · exact h3 h
  · exact h4 h
  have := hL3.ids z hz; omega
 have h45 : 6 ≤ τ3.length := by
  have := Store.at_lt hL3.h5; omega
 have hL4 : Loop τ4 a0 a1 ever' rver L' rest := by
  refine ⟨hkeep hL3.h0 (by decide) (by decide) (by decide), hkeep hL3.h1 (by decide) (by decide) (by decide), hkeep hL3.h2 (by decide) (by decide) (by decide), hR4, hkeep hL3.h5 (by decide) (by decide) (by decide), fun z hz => ?_⟩
  rcases hid4 z hz with h | h
  · obtain ⟨w, hw, h'⟩ := uw.1 h
    have := hL3.ids w hw; omega
  omega
 have h43 := hL4.h2
 have h44 := Store.at_set (ver' := 0) (cs' := [.int .i64 0, .int .i64 0, .str [], .ds true [] 0 true, .ds true [] 0 true]) h43
 refine zn (b := !pp.2) rfl (fun hc6 => ?_) (fun hc6 => ?_)
 · have hc7 : pp.2 = false := by simpa using hc6
   rw [xN hc7] at h
   obtain rfl := Option.some.inj h
   refine rg tok [8, 9] fun K hK => ?_
   simp only [go_sem, qc, qf, qa, qd, h43, qj, ql, uv, uO]
   apply hK
   clear hK K
   refine yB ?_
   simp only [vb8, ZC, yQ, xb, xR, exists_eq_left', go_sem, qf, qa, qd, h44, qj, ql]
   exact XW
 have hc7 : pp.2 = true := by simpa using hc6
 rw [if_pos hc7] at h
 refine zd ?_
 simp only [Yd, zo]
 exact fin _ _ L' rest ever' rver ⟨rfl, rfl, rfl, rfl, rfl, rfl, rfl, rfl, rfl, rfl, trivial⟩ hL4 (by rw [he4]; exact h)
end
section
set_option maxRecDepth 8000
open Go.RowKit AM
mutual
def zy : Nat → GSchema → GMessage → List UInt8 → Int → Option (GTree × Int)
 | 0, _, _, _, _ => none
 | k + 1, a0, a1, a2, a3 => zy.body (zy k) (zQ k) a0 a1 a2 a3
def zQ : Nat → GSchema → GType → GRaw → Int → Option (GTree × Int)
 | 0, _, _, _, _ => none
 | k + 1, a0, a1, a2, a3 => zQ.body (zy k) (zQ k) a0 a1 a2 a3
end
theorem zy.all (k : Nat) :
 (∀ (a0 : GSchema) (a1 : GMessage) (a2 : List UInt8) (a3 : Int) (r : GTree × Int), zy k a0 a1 a2 a3 = some r → ACalls qh 41 [.agg (encGSchema a0), .agg (encGMessage a1), .ds true (qe encB a2) (qb a2) false, .int .i64 a3] [] (fun r' _ => r' = .tup [.agg (cellsGTree r.1), .int .i64 r.2])) ∧
 (∀ (a0 : GSchema) (a1 : GType) (a2 : GRaw) (a3 : Int) (r : GTree × Int), zQ k a0 a1 a2 a3 = some r → ACalls qh 66 [.agg (encGSchema a0), .agg (encGType a1), .agg (encGRaw a2), .int .i64 a3] [] (fun r' _ => r' = .tup [.agg (cellsGTree r.1), .int .i64 r.2])) := by
 induction k with
 | zero => exact ⟨fun a0 a1 a2 a3 r h => (by simp only [zy] at h; cases h), fun a0 a1 a2 a3 r h => (by simp only [zQ] at h; cases h)⟩
 | succ k ih =>
  exact ⟨fun a0 a1 a2 a3 r h => zy.step (zy k) (zQ k) ih.2 a0 a1 a2 a3 r (by simpa only [zy] using h),
   fun a0 a1 a2 a3 r h => zQ.step (zy k) (zQ k) ih.1 ih.2 a0 a1 a2 a3 r (by simpa only [zQ] using h)⟩
theorem zy.ok (k : Nat) (a0 : GSchema) (a1 : GMessage) (a2 : List UInt8) (a3 : Int) (r : GTree × Int) (h : zy k a0 a1 a2 a3 = some r) : ACalls qh 41 [.agg (encGSchema a0), .agg (encGMessage a1), .ds true (qe encB a2) (qb a2) false, .int .i64 a3] [] (fun r' _ => r' = .tup [.agg (cellsGTree r.1), .int .i64 r.2]) :=
 (zy.all k).1 a0 a1 a2 a3 r h
theorem zy.ev (k : Nat) (a0 : GSchema) (a1 : GMessage) (a2 : List UInt8) (a3 : Int) (r : GTree × Int) (h : zy k a0 a1 a2 a3 = some r) (σ : Store) : ACalls qh 41 [.agg (encGSchema a0), .agg (encGMessage a1), .ds true (qe encB a2) (qb a2) false, .int .i64 a3] σ (fun r' σ' => r' = .tup [.agg (cellsGTree r.1), .int .i64 r.2] ∧ σ' = σ) :=
 (zy.ok k a0 a1 a2 a3 r h).pureAt (by simp only [AV.canon, canonL, canon_all, qU, qx, qK, encGMessage, encGSchema]) (by simp only [AV.canon, canonL, canon_all, qU, qx, qK, cellsGTree]) σ
end
end Go.Proofs.YtaddlmlpeghonaaGreatDoor
