/- Parts of the proof, cut down to what it needs. -/
import Derived.Test.YtaddlmlpeghonaaGreatDoorMCf
import Derived.Test.YtaddlmlpeghonaaGreatDoorMFB
set_option linter.constructorNameAsVariable false
set_option linter.unusedSimpArgs false
set_option linter.unusedVariables false
namespace Go.Proofs.YtaddlmlpeghonaaGreatDoor
open _root_.List renaming length → qb, flatMap → qe, length_append → qi, length_cons → qj, length_nil → ql, append_assoc → qp, mem_cons_of_mem → qs, mem_cons_self → qt, getD_eq_getElem?_getD → qv, map_nil → qw, drop_zero → qy, nil_append → qz, append_nil → qB, map_append → qD, cons_append → qE, length_eq_zero_iff → qF, map_cons → qG, length_singleton → qJ, mem_cons → qM, replicate → qP, getElem?_append_left → qS, flatMap_cons → qT, flatMap_append → qV, range_zero → qW, all_cons → qY, getElem?_eq_getElem → qZ, range_succ → q2, getElem?_eq_some_iff → q7, all_nil → q9, length_map → ua, all_eq_true → uc, flatMap_nil → ud, getElem?_set_ne → ue, take_of_length_le → uh, getElem?_append_right → ui, take_length → ul, pairwise_cons → um, take_append_drop → un, filter_cons → uo, mem_append → uq, getElem?_set_self → ur, getElem?_eq_none → uu, set_cons_zero → uv, mem_map → uw, range → uz, mem_singleton → uA, mem_append_right → uE, length_take → uG, length_drop → uH, getElem?_cons_zero → uI, getElem?_cons_succ → uJ, set_cons_succ → uO
open _root_.Option renaming bind_some → qg, map_some → ux, getD_some → uN
open _root_.Nat renaming reduceEqDiff → qa, reduceLT → qc, reduceAdd → qd, reduceLeDiff → qf, zero_add → qm, reduceMul → qq, lt_succ_self → qr, le_refl → qu, reduceSub → qC, mul_le_mul_right → q1, reduceMod → ub, lt_of_lt_of_le → ug, zero_le → uk, le_trans → ut, zero_mul → uy, sub_self → uK, sub_zero → uM, succ_mul → uP, add_zero → uQ, add_assoc → uR, add_mul → uS
open _root_.Bool renaming and_eq_true → qn, not_false → qx, not_true → qH, or_true → qK, and_false → qL, and_true → qN, or_eq_true → qQ, or_false → qR, and_self → qU, false_eq_true → q3, true_and → uC, false_ne_true → uD, not_eq_true' → uF, false_or → uL
open _root_.Int renaming toNat → qI, toNat_natCast → qX
open _root_.BitVec renaming ofInt → qA, toNat → uj
open _root_.Array renaming length_toList → uf, getD_eq_getD_getElem? → uB, getElem?_eq_getElem → uT
open _root_.UInt8 renaming ofNat → q5
open Result renaming andThen_ok → qk
open Sem renaming run_bind → qo, run_pure → qO
open _root_.Go.Proofs.Tryz renaming prog → qh
section
set_option maxRecDepth 4000
set_option maxHeartbeats 1000000
open AM
theorem yx.ok (a0 : GValueNode) (r : List Int) (h : yx a0 = some r) : ACalls qh 99 [.dp (encGValueNode a0) 0] [] (fun r' _ => r' = .ds true (qe encI r) (qb r) false) :=
 (yx.own a0 r h).ownData (zr E45.len r) (by simp only [push_cast])
theorem yx.ev (a0 : GValueNode) (r : List Int) (h : yx a0 = some r) (σ : Store) : ACalls qh 99 [.dp (encGValueNode a0) 0] σ (fun r' σ' => r' = .ds true (qe encI r) (qb r) false ∧ σ' = σ) :=
 (yx.ok a0 r h).c σ
def wX (a0 : List GValueValue) : Option (List GValueValue) := (ZZ (qb a0) 16).bind fun _ => some a0
theorem wX.own (a0 r : List GValueValue) (h : wX a0 = some r) : ACalls qh 136 [.ds true (qe encGValueValue a0) (qb a0) false] [] (fun r' σ' => r' = .os true 1 0 0 0 (qb r) false ∧ σ' = [.cells 0 (qe encGValueValue r)]) := by
 obtain ⟨_u, hu, h⟩ := bind_some h;have gu := yd hu;cases h
 have f1 := fun nl tt σ => xK E156.len a0 nl tt σ
 have f2 := zr E156.len a0;have f3 := Zf encGValueValue a0;refine vcd (rs := [.tmp 2]) tok Tryz.func136 rfl Tryz.ntmps136 rfl Tryz.call136 (by simp) ?_;refine zl [(0, .ds true (qe encGValueValue a0) (qb a0) false)] ⟨rfl, trivial⟩ ?_;refine rgN [0] ?_
 refine za fun Z1 hZ1 => ?_
 refine rc [0, 4] fun K hK => ?_
 refine rnN 1 ?_
 refine vaz tok rfl rfl rfl rfl rfl rfl fun b hnil => ?_
 have hb : b = true → a0 = [] := fun hb => by
  have := hnil hb;simp only [yg, go_sem, reduceCtorEq] at this;exact List.eq_nil_of_length_eq_zero this
 clear hnil
 refine nkN hK ?_;cases b
 · refine zm rfl ?_;apply zd;apply hZ1
   refine rg tok [2] fun K hK => ?_
   by_cases h0 : qb a0 = 0
   · obtain rfl := List.eq_nil_of_length_eq_zero h0;simp only [go_sem, qc, qa, reduceCtorEq, zH, zX, qW, uk, z6, zM, yg, ym, ud, ql, uy, q9];apply hK
     apply yB;simp only [ZC, yQ, xb, xR, exists_eq_left', go_sem];refine .inl ⟨0, true, by simp, ?_, ?_⟩
     · first | rfl | (simp only [go_sem, qc, qf, qa, qd, qq, qC, reduceIte, reduceCtorEq, Zw, Zg, if_true] <;> rfl)
     first | rfl | (simp only [go_sem, qc, qf, qa, qd, qq, qC, reduceIte, reduceCtorEq, Yz, vbt, Ye, YB, YA, qw] <;> rfl)
   have h1 := eq_false h0;simp only [go_sem, qc, qa, reduceCtorEq, zH, zX, qW, uk, z6, zM, yg, f1, f3, h1, gu, yv, qw, qz, uy];apply hK
   apply yB;simp only [ZC, yQ, xb, xR, exists_eq_left', go_sem, qd];refine .inl ⟨1, false, by simp, ?_, ?_⟩
   · first | rfl | (simp only [go_sem, qc, qf, qa, qd, qq, qC, reduceIte, reduceCtorEq, Zw, Zg, if_true] <;> rfl)
   first | rfl | (simp only [go_sem, Yz, Ye, YB, YA, zB] <;> rfl)
 obtain rfl := hb rfl;refine zp rfl ?_;refine rgN [2] ?_;apply yB;simp only [ZC, yQ, xb, xR, exists_eq_left', go_sem];refine .inr ?_
 first | rfl | (simp only [go_sem, qc, qf, qa, qd, qq, qC, reduceIte, reduceCtorEq, YX, qw, qK, qR, qx, qN] <;> rfl)
def xa.l4 (a1 : Int) : List GValueEntry → Int → Option (List GValueValue)
 | [], x2 => some ([] : List GValueValue)
 | y4 :: q4, x2 => (if y4.ftag = a1 then (wX y4.fl).bind fun r12 => some r12 else ((xa.l4 a1 q4) (x2 + 1)))
def xa (a0 : GValueNode) (a1 : Int) : Option (List GValueValue) :=
 (xa.l4 a1 a0.fentries 0)
theorem xa.ok (a0 : GValueNode) (a1 : Int) (r : List GValueValue) (h : xa a0 a1 = some r) : ACalls qh 100 [.dp (encGValueNode a0) 0, .int .i64 a1] [] (fun r' _ => r' = .ds true (qe encGValueValue r) (qb r) false) := by
 refine zf (rs := [.tmp 4]) tok Tryz.func100 rfl Tryz.ntmps100 rfl Tryz.call100 (by simp) ?_;refine zl [(0, .dp (encGValueNode a0) 0), (1, .int .i64 a1)] ⟨rfl, rfl, trivial⟩ ?_;unfold xa at h;refine rgN [0, 1] ?_
 refine za fun Z1 hZ1 => ?_
 refine rg tok [1, 10, 11, 12] fun K hK => ?_
 simp only [go_sem, qc, qa, qd, reduceCtorEq, encGValueNode, vab];apply hK
 apply ze
 refine yP 10 fun hb4 => ?_
 replace hb4 : qb a0.fentries ≤ 9223372036854775807 := hb4.1;refine zq (fun m L τ => ∃ (p4 q4 : List GValueEntry) (x2 : Int), m = qb q4 ∧ L = [(1, .int .i64 a1), (10, .ds true (qe encGValueEntry a0.fentries) (qb a0.fentries) false), (11, .int .i64 (qb a0.fentries : Int)), (12, .int .i64 x2)] ∧ τ = [] ∧ a0.fentries = p4 ++ q4 ∧ x2 = (qb p4 : Int) ∧ xa.l4 a1 q4 x2 = some r) _ ⟨[], a0.fentries, 0, rfl, rfl, rfl, rfl, rfl, h⟩ .s ?_;rintro m L τ ⟨p4, q4, x2, rfl, rfl, rfl, hE4, hi4, h⟩
 rcases q4 with _ | ⟨y4, q4⟩
 · have hz4 := yl hE4 hi4;simp only [xa.l4] at h
   refine rg tok [1, 10, 11, 12, 13] fun K hK => ?_
   simp only [go_sem, qc, qa, hz4];apply hK
   refine za fun Z5 hZ5 => ?_
   refine zm rfl ?_;apply zv;apply hZ1;refine rgN [4] ?_;cases h;exact rtA
 obtain ⟨hz4, hw4, hx4, hE'4, hi'4⟩ := zW hE4 hi4 hb4;simp only [xa.l4] at h
 refine rg tok [1, 10, 11, 12, 13] fun K hK => ?_
 simp only [go_sem, qc, qa, hz4];apply hK
 refine za fun Z6 hZ6 => ?_
 refine zp rfl ?_;apply zd;apply hZ6
 refine za fun Z7 hZ7 => ?_
 apply ze;have f8 := E190.idxS hx4;have f9 := E190.loadS rfl rfl hx4
 refine rg tok [1, 6, 10, 11, 12] fun K hK => ?_
 simp only [go_sem, qc, qf, qa, qd, cellsGValueEntry, xT, f8, f9];apply hK
 refine rgN [1, 6, 10, 11, 12, 19] ?_;refine zx rfl (fun hc10 => ?_) (fun hc10 => ?_)
 · rw [if_pos hc10] at h;have t11 := eq_true hc10
   refine rc [4] fun K hK => ?_
   obtain ⟨r12, hr12, h⟩ := bind_some h;refine zj tok 2 ?_;simp only [go_sem, qc, qa, qd, t11];refine clN rfl rfl rfl (@id (ACalls qh 136 [.ds true (qe encGValueValue y4.fl) (qb y4.fl) false] [.cells 0 (cellsGValueEntry y4)] (fun r' σ' => r' = .os true 1 1 0 0 (qb r12) false ∧ σ' = [.cells 0 (cellsGValueEntry y4), .cells 0 (qe encGValueValue r12)])) ((wX.own y4.fl r12 hr12).ownAt0 (by simp only [push_cast]) (by simp only [push_cast]) _)) ?_;refine rnN 1 ?_;refine nkN hK ?_;cases h;exact rtA
 rw [if_neg hc10] at h;have t13 := eq_false hc10;apply zd;apply hZ7
 refine rgE tok [1, 10, 11, 12] fun K hK => ?_
 simp only [go_sem, qc, qa, hw4, t13];apply hK
 exact ⟨_, _, _, qr q4.length, ⟨p4 ++ [y4], q4, x2 + 1, rfl, rfl, rfl, hE'4, hi'4, h⟩, (.t [] false)⟩
theorem xa.ev (a0 : GValueNode) (a1 : Int) (r : List GValueValue) (h : xa a0 a1 = some r) (σ : Store) : ACalls qh 100 [.dp (encGValueNode a0) 0, .int .i64 a1] σ (fun r' σ' => r' = .ds true (qe encGValueValue r) (qb r) false ∧ σ' = σ) :=
 (xa.ok a0 a1 r h).c σ
def xJ (a0 : GValueValue) : Int × Bool :=
 (match a0 with | .nil => (0, false) | .num n2 => (n2, true) | .str s2 => (0, false) | .node e2 r2 => (0, false))
theorem xJ.ok (a0 : GValueValue) (r : Int × Bool) (h : xJ a0 = r) : ACalls qh 155 [.agg (encGValueValue a0)] [] (fun r' _ => r' = .tup [.int .i64 r.1, .bool r.2]) := by
 refine zf (rs := [.tmp 2, .tmp 3]) tok Tryz.func155 rfl Tryz.ntmps155 rfl Tryz.call155 (by simp) ?_;refine zl [(0, .agg (encGValueValue a0))] ⟨rfl, trivial⟩ ?_;unfold xJ at h;have f1 := ZG a0;unfold AV.one at f1
 refine rg tok [1] fun K hK => ?_
 simp only [go_sem, qc, qa, reduceCtorEq, encGValueValue, f1];apply hK
 rcases a0 with _ | n2 | s2 | ⟨e2, r2⟩
 · dsimp only at h
   try simp only [vbj]
   refine rg tok [4, 5] fun K hK => ?_
   simp only [go_sem, qc, qa, qd, xV, xZ, TypeDesc.isIface];apply hK
   refine rgN [2, 3] ?_;cases h;exact rtA
 · dsimp only at h
   try simp only [vbi]
   refine rg tok [4, 5] fun K hK => ?_
   simp only [go_sem, qc, qa, qd, xV, xZ, TypeDesc.isIface];apply hK
   refine rgN [2, 3] ?_;cases h;exact rtA
 · dsimp only at h
   try simp only [vbh]
   refine rg tok [4, 5] fun K hK => ?_
   simp only [go_sem, qc, qa, qd, xV, xZ, TypeDesc.isIface];apply hK
   refine rgN [2, 3] ?_;cases h;exact rtA
 dsimp only at h
 try simp only [Xr]
 refine rg tok [4, 5] fun K hK => ?_
 simp only [go_sem, qc, qa, qd, xV, xZ, TypeDesc.isIface];apply hK
 refine rgN [2, 3] ?_;cases h;exact rtA
theorem xJ.ev (a0 : GValueValue) (r : Int × Bool) (h : xJ a0 = r) (σ : Store) : ACalls qh 155 [.agg (encGValueValue a0)] σ (fun r' σ' => r' = .tup [.int .i64 r.1, .bool r.2] ∧ σ' = σ) :=
 (xJ.ok a0 r h).c σ
def xI (a0 : GValueValue) : List UInt8 × Bool :=
 (match a0 with | .nil => ([], false) | .num n2 => ([], false) | .str s2 => (s2, true) | .node e2 r2 => ([], false))
theorem xI.ok (a0 : GValueValue) (r : List UInt8 × Bool) (h : xI a0 = r) : ACalls qh 156 [.agg (encGValueValue a0)] [] (fun r' _ => r' = .tup [.str r.1, .bool r.2]) := by
 refine zf (rs := [.tmp 2, .tmp 3]) tok Tryz.func156 rfl Tryz.ntmps156 rfl Tryz.call156 (by simp) ?_;refine zl [(0, .agg (encGValueValue a0))] ⟨rfl, trivial⟩ ?_;unfold xI at h;have f1 := ZG a0;unfold AV.one at f1
 refine rg tok [1] fun K hK => ?_
 simp only [go_sem, qc, qa, reduceCtorEq, encGValueValue, f1];apply hK
 rcases a0 with _ | n2 | s2 | ⟨e2, r2⟩
 · dsimp only at h
   try simp only [vbj]
   refine rg tok [4, 5] fun K hK => ?_
   simp only [go_sem, qc, qa, qd, xV, xZ, TypeDesc.isIface];apply hK
   refine rgN [2, 3] ?_;cases h;exact rtA
 · dsimp only at h
   try simp only [vbi]
   refine rg tok [4, 5] fun K hK => ?_
   simp only [go_sem, qc, qa, qd, xV, xZ, TypeDesc.isIface];apply hK
   refine rgN [2, 3] ?_;cases h;exact rtA
 · dsimp only at h
   try simp only [vbh]
   refine rg tok [4, 5] fun K hK => ?_
   simp only [go_sem, qc, qa, qd, xV, xZ, TypeDesc.isIface];apply hK
   refine rgN [2, 3] ?_;cases h;exact rtA
 dsimp only at h
 try simp only [Xr]
 refine rg tok [4, 5] fun K hK => ?_
 simp only [go_sem, qc, qa, qd, xV, xZ, TypeDesc.isIface];apply hK
 refine rgN [2, 3] ?_;cases h;exact rtA
theorem xI.ev (a0 : GValueValue) (r : List UInt8 × Bool) (h : xI a0 = r) (σ : Store) : ACalls qh 156 [.agg (encGValueValue a0)] σ (fun r' σ' => r' = .tup [.str r.1, .bool r.2] ∧ σ' = σ) :=
 (xI.ok a0 r h).c σ
def Zb (a0 : GValueValue) : Option GValueValue :=
 bnd (xJ a0) fun r3 => (if r3.2 = true then some (GValueValue.num r3.1) else bnd (xI a0) fun r6 => (if r6.2 = true then some (GValueValue.str r6.1) else (yI a0).bind fun r8 => some (GValueValue.node r8.fentries r8.frest)))
theorem Zb.ok (a0 : GValueValue) (r : GValueValue) (h : Zb a0 = some r) : ACalls qh 137 [.agg (encGValueValue a0)] [] (fun r' _ => r' = anyV r) := by
 refine zf (rs := [.tmp 2]) tok Tryz.func137 rfl Tryz.ntmps137 rfl Tryz.call137 (by simp) ?_;refine zl [(0, .agg (encGValueValue a0))] ⟨rfl, trivial⟩ ?_;unfold Zb at h;have f1 := ZG a0;unfold AV.one at f1
 refine rg tok [1] fun K hK => ?_
 simp only [go_sem, qc, qa, reduceCtorEq, encGValueValue, f1];apply hK
 refine za fun Z2 hZ2 => ?_
 refine rc [1, 3, 4] fun K hK => ?_
 obtain ⟨r3, hr3, h⟩ := zS h;refine rnN 1 ?_;refine clN rfl rfl rfl (xJ.ev a0 r3 hr3 _) ?_;refine rnN 5 ?_;refine nkN hK ?_;refine rgN [1, 3, 12] ?_;refine zn (b := r3.2) rfl (fun hc4 => ?_) (fun hc4 => ?_)
 · rw [if_pos hc4] at h;refine rgN [2] ?_;cases h;exact rtA
 rw [xN hc4] at h;apply zd;apply hZ2
 refine za fun Z5 hZ5 => ?_
 refine rc [1, 5, 6] fun K hK => ?_
 obtain ⟨r6, hr6, h⟩ := zS h;refine rnN 1 ?_;refine clN rfl rfl rfl (xI.ev a0 r6 hr6 _) ?_;refine rnN 5 ?_;refine nkN hK ?_;refine rgN [1, 5, 20] ?_;refine zn (b := r6.2) rfl (fun hc7 => ?_) (fun hc7 => ?_)
 · rw [if_pos hc7] at h;refine rgN [2] ?_;cases h;exact rtA
 rw [xN hc7] at h;apply zd;apply hZ5
 refine rc [2] fun K hK => ?_
 obtain ⟨r8, hr8, h⟩ := bind_some h;refine rnN 1 ?_;refine clN rfl rfl rfl (yI.ev a0 r8 hr8 _) ?_;refine rnN 2 ?_;refine nkN hK ?_;cases h;exact rtA
theorem Zb.ev (a0 : GValueValue) (r : GValueValue) (h : Zb a0 = some r) (σ : Store) : ACalls qh 137 [.agg (encGValueValue a0)] σ (fun r' σ' => r' = anyV r ∧ σ' = σ) :=
 (Zb.ok a0 r h).c σ
def xj.l9 : Nat → List UInt8 → Int → Option (List UInt8)
 | 0, _, _ => none
 | k9 + 1, l3, x5 => (if 128 ≤ x5 then (ZZ (qb l3 + 1) 1).bind fun _u14 => ((xj.l9 k9) (l3 ++ [q5 (qI (IntKind.u8.wrap ((uj (qA 8 (IntKind.u8.wrap x5) ||| qA 8 128) : Nat) : Int)))]) (Int.fdiv x5 (2 ^ (min (qI 7) 64)))) else (ZZ (qb l3 + 1) 1).bind fun _u18 => some (l3 ++ [q5 (qI (IntKind.u8.wrap x5))]))
def xj (a0 : List UInt8) (a1 : Int) : Option (List UInt8) :=
 (if 128 ≤ a1 then (ZZ (qb a0 + 1) 1).bind fun _u24 => (xj.l9 rounds (a0 ++ [q5 (qI (IntKind.u8.wrap ((uj (qA 8 (IntKind.u8.wrap a1) ||| qA 8 128) : Nat) : Int)))]) (Int.fdiv a1 (2 ^ (min (qI 7) 64)))) else (ZZ (qb a0 + 1) 1).bind fun _u28 => some (a0 ++ [q5 (qI (IntKind.u8.wrap a1))]))
theorem xj.own (a0 : List UInt8) (a1 : Int) (r : List UInt8) (h : xj a0 a1 = some r) : ACalls qh 89 [.ds true (qe encB a0) (qb a0) false, .int .u64 a1] [] (fun r' σ' => r' = .os true 1 0 0 0 (qb r) false ∧ σ' = [.cells 0 (qe encB r)]) := by
 refine ACalls.own0 (by simp only [push_cast]) ?_;refine ZM (rs := [.tmp 4]) tok Tryz.func89 rfl Tryz.ntmps89 rfl Tryz.call89 (by simp) ?_;refine zl [(0, .ds true (qe encB a0) (qb a0) false), (1, .int .u64 a1)] ⟨rfl, rfl, trivial⟩ ?_;unfold xj at h;refine rgN [0, 1] ?_;have f1 := E34.sl_tight a0 .i64 .i64
 refine rg tok [0, 1] fun K hK => ?_
 simp only [go_sem, qc, qa, reduceCtorEq, f1];apply hK
 refine za fun Z2 hZ2 => ?_
 apply ze;refine awp_loopS1 (fun m L τ => ∃ (k9 : Nat) (l3 : List UInt8) (x5 : Int) (v4 : Nat), m = 0 + k9 ∧ L = [(0, .os true 1 0 v4 0 (qb l3) false), (1, .int .u64 x5)] ∧ τ = [.cells v4 (qe encB l3)] ∧ xj.l9 k9 l3 x5 = some r) (rounds + 1) ?_ ?_
 · refine za fun Z20 hZ20 => ?_
   refine rgN [0, 1, 12] ?_;refine zx rfl (fun hc21 => ?_) (fun hc21 => ?_)
   · rw [if_pos hc21] at h;have t22 := eq_true hc21;apply zd;apply hZ20;apply ze;have f23 := xw (T := tab) (src := 140) (dst := 5) rfl rfl rfl;obtain ⟨_u24, hu24, h⟩ := bind_some h;have gu24 := yd hu24;have f25 := app_tight E34.len a0 (m := 1) (by decide)
     refine rg tok [0, 1] fun K hK => ?_
     simp only [go_sem, qc, qf, qa, qq, reduceCtorEq, zH, zX, q2, qW, true_and, ub, z6, yg, t22, f23, gu24, f25, yv, q9, qY, AV.one, qU, qz, qj, ql, qm, qE];apply hK
     refine zU (L := [(0, .os true 1 1 0 0 (qb (a0 ++ [q5 (qI (IntKind.u8.wrap ((uj (qA 8 (IntKind.u8.wrap a1) ||| qA 8 128) : Nat) : Int)))])) false), (1, .int .u64 a1)]) (τ := [.cells 0 [.int .u8 (IntKind.u8.wrap ((uj (qA 8 (IntKind.u8.wrap a1) ||| qA 8 128) : Nat) : Int))], .cells 0 (qe encB (a0 ++ [q5 (qI (IntKind.u8.wrap ((uj (qA 8 (IntKind.u8.wrap a1) ||| qA 8 128) : Nat) : Int)))]))]) (.same (by first | exact ⟨rfl, rfl, trivial⟩ | rfl | (simp only [go_sem, reduceCtorEq, Fits, qi, qj, ql, qm, and_self] <;> rfl)) (by first | exact ⟨rfl, rfl, trivial⟩ | rfl | (simp only [go_sem, encB, qV, qT, ud, qB, vaq] <;> rfl))) ?_
     refine rgE tok [0, 1] fun K hK => ?_
     simp only [go_sem, qc, qa, reduceCtorEq, Yw, Int.reduceLT];apply hK
     exact ⟨_, _, _, (Nat.lt_succ_of_le (Nat.le_of_eq (qm rounds))), ⟨rounds, a0 ++ [q5 (qI (IntKind.u8.wrap ((uj (qA 8 (IntKind.u8.wrap a1) ||| qA 8 128) : Nat) : Int)))], Int.fdiv a1 (2 ^ (min (qI 7) 64)), 0, rfl, rfl, rfl, h⟩, (.t [1] false)⟩
   rw [if_neg hc21] at h;have t26 := eq_false hc21;apply zv;apply hZ2;have f27 := xw (T := tab) (src := 140) (dst := 5) rfl rfl rfl;obtain ⟨_u28, hu28, h⟩ := bind_some h;have gu28 := yd hu28;have f29 := app_tight E34.len a0 (m := 1) (by decide)
   refine rg tok [4] fun K hK => ?_
   simp only [go_sem, qc, qf, qa, qq, reduceCtorEq, zH, zX, q2, qW, true_and, ub, z6, yg, t26, f27, gu28, f29, yv, q9, qY, AV.one, qU, qz, qj, ql, qm, qE];apply hK
   refine zU (L := [(4, .os true 1 1 0 0 (qb (a0 ++ [q5 (qI (IntKind.u8.wrap a1))])) false)]) (τ := [.cells 0 [.int .u8 (IntKind.u8.wrap a1)], .cells 0 (qe encB (a0 ++ [q5 (qI (IntKind.u8.wrap a1))]))]) (.same (by first | exact ⟨rfl, trivial⟩ | rfl | (simp only [go_sem, Fits, qi, qj, ql, qm, and_self] <;> rfl)) (by first | exact ⟨rfl, trivial⟩ | rfl | (simp only [go_sem, encB, qV, qT, ud, qB, vaq] <;> rfl))) ?_;apply yB;cases h;simp only [ZC, yQ, xb, xR, exists_eq_left', go_sem, qd];refine ⟨1, 0, by simp, ?_, ?_⟩
   · first | rfl | (simp only [go_sem, qc, qf, qa, qd, qq, qC, reduceIte, reduceCtorEq, push_cast, if_true, qy, qm, qG, qw, qD, qK, qR, qN, qL, qH, qx, zB] <;> rfl)
   first | rfl | (simp only [go_sem, push_cast, qw, zB] <;> rfl)
 clear h
 rintro m L τ ⟨k9, l3, x5, v4, rfl, rfl, rfl, h⟩
 rcases k9 with _ | k9
 · cases h
 simp only [xj.l9] at h
 refine za fun Z10 hZ10 => ?_
 refine rgN [0, 1, 12] ?_;refine zx rfl (fun hc11 => ?_) (fun hc11 => ?_)
 · rw [if_pos hc11] at h;have t12 := eq_true hc11;apply zd;apply hZ10;apply ze;have f13 := xw (T := tab) (src := 140) (dst := 5) rfl rfl rfl;obtain ⟨_u14, hu14, h⟩ := bind_some h;have gu14 := yd hu14;have f15 := (zr E34.len l3)
   refine rg tok [0, 1] fun K hK => ?_
   simp only [go_sem, qc, qf, qa, qq, reduceCtorEq, zH, zX, q2, qW, true_and, ub, z6, zM, yg, t12, f13, gu14, f15, yv, q9, qY, AV.one, qU, qz, qj, ql, qm, qE];apply hK
   refine zU (L := [(0, .os true 1 0 (v4 + 1) 0 (qb (l3 ++ [q5 (qI (IntKind.u8.wrap ((uj (qA 8 (IntKind.u8.wrap x5) ||| qA 8 128) : Nat) : Int)))])) false), (1, .int .u64 x5)]) (τ := [.cells (v4 + 1) (qe encB (l3 ++ [q5 (qI (IntKind.u8.wrap ((uj (qA 8 (IntKind.u8.wrap x5) ||| qA 8 128) : Nat) : Int)))])), .cells 0 [.int .u8 (IntKind.u8.wrap ((uj (qA 8 (IntKind.u8.wrap x5) ||| qA 8 128) : Nat) : Int))]]) (.same (by first | exact ⟨rfl, rfl, trivial⟩ | rfl | (simp only [go_sem, reduceCtorEq, Fits, qi, qj, ql, qm, and_self] <;> rfl)) (by first | exact ⟨rfl, rfl, trivial⟩ | rfl | (simp only [go_sem, encB, qV, qT, ud, qB, vaq] <;> rfl))) ?_
   refine rgE tok [0, 1] fun K hK => ?_
   simp only [go_sem, qc, qa, reduceCtorEq, Yw, Int.reduceLT];apply hK
   exact ⟨_, _, _, qr (0 + k9), ⟨k9, l3 ++ [q5 (qI (IntKind.u8.wrap ((uj (qA 8 (IntKind.u8.wrap x5) ||| qA 8 128) : Nat) : Int)))], Int.fdiv x5 (2 ^ (min (qI 7) 64)), v4 + 1, rfl, rfl, rfl, h⟩, (.t [0] false)⟩
 rw [if_neg hc11] at h;have t16 := eq_false hc11;apply zv;apply hZ2;have f17 := xw (T := tab) (src := 140) (dst := 5) rfl rfl rfl;obtain ⟨_u18, hu18, h⟩ := bind_some h;have gu18 := yd hu18;have f19 := (zr E34.len l3)
 refine rg tok [4] fun K hK => ?_
 simp only [go_sem, qc, qf, qa, qq, reduceCtorEq, zH, zX, q2, qW, true_and, ub, z6, zM, yg, t16, f17, gu18, f19, yv, q9, qY, AV.one, qU, qz, qj, ql, qm, qE];apply hK
 refine zU (L := [(4, .os true 1 0 (v4 + 1) 0 (qb (l3 ++ [q5 (qI (IntKind.u8.wrap x5))])) false)]) (τ := [.cells (v4 + 1) (qe encB (l3 ++ [q5 (qI (IntKind.u8.wrap x5))])), .cells 0 [.int .u8 (IntKind.u8.wrap x5)]]) (.same (by first | exact ⟨rfl, trivial⟩ | rfl | (simp only [go_sem, Fits, qi, qj, ql, qm, and_self] <;> rfl)) (by first | exact ⟨rfl, trivial⟩ | rfl | (simp only [go_sem, encB, qV, qT, ud, qB, vaq] <;> rfl))) ?_;apply yB;cases h;simp only [ZC, yQ, xb, xR, exists_eq_left', go_sem, qd];refine ⟨0, v4 + 1, by simp, ?_, ?_⟩
 · first | rfl | (simp only [go_sem, qc, qf, qa, qd, qq, qC, reduceIte, reduceCtorEq, push_cast, if_true, qy, qm, qG, qw, qD, qK, qR, qN, qL, qH, qx, zB] <;> rfl)
 first | rfl | (simp only [go_sem, push_cast, qw, zB] <;> rfl)
theorem xj.ok (a0 : List UInt8) (a1 : Int) (r : List UInt8) (h : xj a0 a1 = some r) : ACalls qh 89 [.ds true (qe encB a0) (qb a0) false, .int .u64 a1] [] (fun r' _ => r' = .ds true (qe encB r) (qb r) false) :=
 (xj.own a0 a1 r h).ownData (zr E34.len r) (by simp only [push_cast])
theorem xj.ev (a0 : List UInt8) (a1 : Int) (r : List UInt8) (h : xj a0 a1 = some r) (σ : Store) : ACalls qh 89 [.ds true (qe encB a0) (qb a0) false, .int .u64 a1] σ (fun r' σ' => r' = .ds true (qe encB r) (qb r) false ∧ σ' = σ) :=
 (xj.ok a0 a1 r h).c σ
def ZO (a0 : Int) : Int :=
 IntKind.u64.wrap ((uj (qA 64 (IntKind.u64.wrap ((IntKind.u64.wrap a0) * 2 ^ (min (qI 1) 64))) ^^^ qA 64 (IntKind.u64.wrap (Int.fdiv a0 (2 ^ (min (qI 63) 64))))) : Nat) : Int)
theorem ZO.ok (a0 : Int) (r : Int) (h : ZO a0 = r) : ACalls qh 90 [.int .i64 a0] [] (fun r' _ => r' = .int .u64 r) := by
 refine zf (rs := [.tmp 2]) tok Tryz.func90 rfl Tryz.ntmps90 rfl Tryz.call90 (by simp) ?_;refine zl [(0, .int .i64 a0)] ⟨rfl, trivial⟩ ?_;unfold ZO at h;refine rgN [0] ?_;have f1 := xw (T := tab) (src := 3) (dst := 140) rfl rfl rfl;have f2 := xw (T := tab) (src := 3) (dst := 140) rfl rfl rfl
 refine rg tok [2] fun K hK => ?_
 simp only [go_sem, qc, qa, reduceCtorEq, f1, Yw, Int.reduceLT];apply hK
 cases h;exact rtA
theorem ZO.ev (a0 : Int) (r : Int) (h : ZO a0 = r) (σ : Store) : ACalls qh 90 [.int .i64 a0] σ (fun r' σ' => r' = .int .u64 r ∧ σ' = σ) :=
 (ZO.ok a0 r h).c σ
def ZN (a0 : List UInt8) (a1 : GRaw) : Option (List UInt8 × Bool) :=
 bnd (yp a1) fun r2 => (if (!r2) = true then some (a0, false) else (xj a0 (IntKind.u64.wrap (IntKind.i64.wrap ((IntKind.i64.wrap (2 * a1.fTag)) + a1.fWire)))).bind fun r5 => (if a1.fWire = 0 then bnd (ZO a1.fN) fun r9 => (xj r5 r9).bind fun r10 => some (r10, true) else (xj r5 (IntKind.u64.wrap (qb a1.fB : Int))).bind fun r13 => (ZZ (qb r13 + qb a1.fB) 1).bind fun _u14 => some (r13 ++ a1.fB, true)))
theorem ZN.ok (a0 : List UInt8) (a1 : GRaw) (r : List UInt8 × Bool) (h : ZN a0 a1 = some r) : ACalls qh 52 [.ds true (qe encB a0) (qb a0) false, .agg (encGRaw a1)] [] (fun r' _ => r' = .tup [.ds true (qe encB r.1) (qb r.1) false, .bool r.2]) := by
 refine zf (rs := [.tmp 4, .tmp 5]) tok Tryz.func52 rfl Tryz.ntmps52 rfl Tryz.call52 (by simp) ?_;refine zl [(0, .ds true (qe encB a0) (qb a0) false), (1, .agg (encGRaw a1))] ⟨rfl, rfl, trivial⟩ ?_;unfold ZN at h
 refine rg tok [0, 3] fun K hK => ?_
 simp only [go_sem, qc, qa, qd, reduceCtorEq, encGRaw];apply hK
 refine za fun Z1 hZ1 => ?_
 refine rc [0, 3, 9] fun K hK => ?_
 obtain ⟨r2, hr2, h⟩ := zS h;refine rnN 1 ?_;refine clN rfl rfl rfl (yp.ev a1 r2 hr2 _) ?_;refine rnN 1 ?_;refine nkN hK ?_;refine zn (b := (!r2)) rfl (fun hc3 => ?_) (fun hc3 => ?_)
 · rw [if_pos hc3] at h;refine rgN [4, 5] ?_;cases h;exact rtA
 rw [xN hc3] at h;apply zd;apply hZ1
 refine rc [3, 6] fun K hK => ?_
 have f4 := xw (T := tab) (src := 3) (dst := 140) rfl rfl rfl;obtain ⟨r5, hr5, h⟩ := bind_some h;refine zj tok 8 ?_;simp only [go_sem, qc, qa, qd, reduceCtorEq, f4];refine clN rfl rfl rfl (xj.ev a0 (IntKind.u64.wrap (IntKind.i64.wrap ((IntKind.i64.wrap (2 * a1.fTag)) + a1.fWire))) r5 hr5 _) ?_;refine rnN 1 ?_;refine nkN hK ?_
 refine za fun Z6 hZ6 => ?_
 refine rgN [3, 6, 22] ?_;refine zx rfl (fun hc7 => ?_) (fun hc7 => ?_)
 · rw [if_pos hc7] at h;have t8 := eq_true hc7
   refine rc [4, 5] fun K hK => ?_
   obtain ⟨r9, hr9, h⟩ := zS h;refine zj tok 3 ?_;simp only [go_sem, qc, qa, qd, t8];refine clN rfl rfl rfl (ZO.ev a1.fN r9 hr9 _) ?_;obtain ⟨r10, hr10, h⟩ := bind_some h;refine clN rfl rfl rfl (xj.ev r5 r9 r10 hr10 _) ?_;refine rnN 2 ?_;refine nkN hK ?_;cases h;exact rtA
 rw [if_neg hc7] at h;have t11 := eq_false hc7;apply zd;apply hZ6;have f12 := xw (T := tab) (src := 3) (dst := 140) rfl rfl rfl;obtain ⟨r13, hr13, h⟩ := bind_some h;obtain ⟨_u14, hu14, h⟩ := bind_some h;have gu14 := yd hu14;have f15 := (zr E34.len r13)
 refine rd [4, 5] fun K hK => ?_
 refine DW.start (T := tab) [.any, .any, .at [], .at [], .at [], .eff, .any, .own 1 [], .eff, .any, .any] [(1, [])] ?_;refine DW.runN tok 5 ?_;simp only [go_sem, qc, qa, qd, t11, f12, qj, ql, qm];refine DW.callS rfl rfl rfl (@id (ACalls qh 89 [.ds true (qe encB r5) (qb r5) false, .int .u64 (IntKind.u64.wrap (qb a1.fB : Int))] [.cells 0 [.int .i64 a1.fTag, .int .i64 a1.fWire, .int .i64 a1.fN, .str a1.fB]] (fun r' σ' => r' = .os true 1 1 0 0 (qb r13) false ∧ σ' = [.cells 0 [.int .i64 a1.fTag, .int .i64 a1.fWire, .int .i64 a1.fN, .str a1.fB], .cells 0 (qe encB r13)])) ((xj.own r5 (IntKind.u64.wrap (qb a1.fB : Int)) r13 hr13).ownAt0 (by simp only [push_cast]) (by simp only [push_cast]) _)) (vcc (by simp only [go_sem, qf])) ?_;refine DW.runN tok 5 ?_;simp only [go_sem, qc, qf, qa, qd, z6, zM, yg, true_and, gu14, f15, srcCells_s, Y6, Zf, qj, ql, qm];refine DW.fin tok (by decide +kernel) rfl ?_;simp only [zo, upd, qa, reduceIte, yG, xr];apply hK
 refine zU (L := [(4, .os true 1 1 (0 + 1) 0 (qb (r13 ++ a1.fB)) false), (5, .bool true)]) (τ := [.cells 0 [.int .i64 a1.fTag, .int .i64 a1.fWire, .int .i64 a1.fN, .str a1.fB], .cells (0 + 1) (qe encB (r13 ++ a1.fB))]) .s ?_;cases h;exact rtA
theorem ZN.ev (a0 : List UInt8) (a1 : GRaw) (r : List UInt8 × Bool) (h : ZN a0 a1 = some r) (σ : Store) : ACalls qh 52 [.ds true (qe encB a0) (qb a0) false, .agg (encGRaw a1)] σ (fun r' σ' => r' = .tup [.ds true (qe encB r.1) (qb r.1) false, .bool r.2] ∧ σ' = σ) :=
 (ZN.ok a0 a1 r h).c σ
def zY.l11 : List GRaw → Int → List UInt8 → Option (List UInt8 × Int)
 | [], x8, x7 => some (x7, 0)
 | y11 :: q11, x8, x7 => (ZN x7 y11).bind fun r17 => (if 4096 < (qb r17.1 : Int) then some (([] : List UInt8), 4) else ((zY.l11 q11) (x8 + 1) r17.1))
def zY.l4 (a0 : List GRaw) : List GRaw → Int → Option (List UInt8 × Int)
 | [], x2 => (zY.l11 a0 0 ([] : List UInt8))
 | y4 :: q4, x2 => bnd (yp y4) fun r25 => (if (!r25) = true then some (([] : List UInt8), 1) else ((zY.l4 a0 q4) (x2 + 1)))
def zY (a0 : List GRaw) : Option (List UInt8 × Int) :=
 (zY.l4 a0 a0 0)
theorem zY.ok (a0 : List GRaw) (r : List UInt8 × Int) (h : zY a0 = some r) : ACalls qh 26 [.ds true (qe encGRaw a0) (qb a0) false] [] (fun r' _ => r' = .tup [.ds true (qe encB r.1) (qb r.1) false, .int .i64 r.2]) := by
 refine zf (rs := [.tmp 2, .tmp 3]) tok Tryz.func26 rfl Tryz.ntmps26 rfl Tryz.call26 (by simp) ?_;refine zl [(0, .ds true (qe encGRaw a0) (qb a0) false)] ⟨rfl, trivial⟩ ?_;unfold zY at h;refine rgN [0] ?_
 refine za fun Z1 hZ1 => ?_
 refine rgN [0, 9, 10, 11] ?_;apply ze
 refine yP 0 fun hb4 => ?_
 replace hb4 : qb a0 ≤ 9223372036854775807 := hb4.1;refine zq (fun m L τ => ∃ (p4 q4 : List GRaw) (x2 : Int), m = qb q4 ∧ L = [(0, .ds true (qe encGRaw a0) (qb a0) false), (9, .ds true (qe encGRaw a0) (qb a0) false), (10, .int .i64 (qb a0 : Int)), (11, .int .i64 x2)] ∧ τ = [] ∧ a0 = p4 ++ q4 ∧ x2 = (qb p4 : Int) ∧ zY.l4 a0 q4 x2 = some r) _ ⟨[], a0, 0, rfl, rfl, rfl, rfl, rfl, h⟩ .s ?_;rintro m L τ ⟨p4, q4, x2, rfl, rfl, rfl, hE4, hi4, h⟩
 rcases q4 with _ | ⟨y4, q4⟩
 · have hz4 := yl hE4 hi4;simp only [zY.l4] at h
   refine rg tok [0, 9, 10, 11, 12] fun K hK => ?_
   simp only [go_sem, qc, qa, reduceCtorEq, hz4];apply hK
   refine za fun Z5 hZ5 => ?_
   refine zm rfl ?_;apply zv;apply hZ1;refine rgN [0, 6] ?_
   refine za fun Z6 hZ6 => ?_
   refine rgN [6, 19, 20, 21] ?_;apply ze
   refine yP 19 fun hb11 => ?_
   replace hb11 : qb a0 ≤ 9223372036854775807 := hb11.1;refine zq (fun m L τ => ∃ (p11 q11 : List GRaw) (x8 : Int) (x7 : List UInt8), m = qb q11 ∧ L = [(6, .ds true (qe encB x7) (qb x7) false), (19, .ds true (qe encGRaw a0) (qb a0) false), (20, .int .i64 (qb a0 : Int)), (21, .int .i64 x8)] ∧ τ = [] ∧ a0 = p11 ++ q11 ∧ x8 = (qb p11 : Int) ∧ zY.l11 q11 x8 x7 = some r) _ ⟨[], a0, 0, ([] : List UInt8), rfl, rfl, rfl, rfl, rfl, h⟩ (.t [] true) ?_;rintro m L τ ⟨p11, q11, x8, x7, rfl, rfl, rfl, hE11, hi11, h⟩
   rcases q11 with _ | ⟨y11, q11⟩
   · have hz11 := yl hE11 hi11;simp only [zY.l11] at h
     refine rg tok [6, 19, 20, 21, 22] fun K hK => ?_
     simp only [go_sem, qc, qa, hz11];apply hK
     refine za fun Z12 hZ12 => ?_
     refine zm rfl ?_;apply zv;apply hZ6;refine rgN [2, 3] ?_;cases h;exact rtA
   obtain ⟨hz11, hw11, hx11, hE'11, hi'11⟩ := zW hE11 hi11 hb11;simp only [zY.l11] at h
   refine rg tok [6, 19, 20, 21, 22] fun K hK => ?_
   simp only [go_sem, qc, qa, hz11];apply hK
   refine za fun Z13 hZ13 => ?_
   refine zp rfl ?_;apply zd;apply hZ13
   refine za fun Z14 hZ14 => ?_
   apply ze;have f15 := E28.idxS hx11;have f16 := E28.loadS rfl rfl hx11
   refine rg tok [6, 8, 19, 20, 21] fun K hK => ?_
   simp only [go_sem, qc, qf, qa, qd, encGRaw, f15, f16];apply hK
   refine rc [6, 19, 20, 21] fun K hK => ?_
   obtain ⟨r17, hr17, h⟩ := bind_some h;refine rnN 2 ?_;refine clN rfl rfl rfl (ZN.ev x7 y11 r17 hr17 _) ?_;refine rnN 4 ?_;refine nkN hK ?_;refine rgN [6, 19, 20, 21, 33] ?_;refine zx rfl (fun hc18 => ?_) (fun hc18 => ?_)
   · rw [if_pos hc18] at h;have t19 := eq_true hc18
     refine rg tok [2, 3] fun K hK => ?_
     simp only [go_sem, qc, qa, t19];apply hK
     cases h;exact rtA
   rw [if_neg hc18] at h;have t20 := eq_false hc18;apply zd;apply hZ14
   refine rgE tok [6, 19, 20, 21] fun K hK => ?_
   simp only [go_sem, qc, qa, hw11, t20];apply hK
   exact ⟨_, _, _, qr q11.length, ⟨p11 ++ [y11], q11, x8 + 1, r17.1, rfl, rfl, rfl, hE'11, hi'11, h⟩, (.t [] false)⟩
 obtain ⟨hz4, hw4, hx4, hE'4, hi'4⟩ := zW hE4 hi4 hb4;simp only [zY.l4] at h
 refine rg tok [0, 9, 10, 11, 12] fun K hK => ?_
 simp only [go_sem, qc, qa, reduceCtorEq, hz4];apply hK
 refine za fun Z21 hZ21 => ?_
 refine zp rfl ?_;apply zd;apply hZ21
 refine za fun Z22 hZ22 => ?_
 apply ze;have f23 := E28.idxS hx4;have f24 := E28.loadS rfl rfl hx4
 refine rg tok [0, 5, 9, 10, 11] fun K hK => ?_
 simp only [go_sem, qc, qf, qa, qd, reduceCtorEq, encGRaw, f23, f24];apply hK
 refine rc [0, 9, 10, 11, 17] fun K hK => ?_
 obtain ⟨r25, hr25, h⟩ := zS h;refine rnN 1 ?_;refine clN rfl rfl rfl (yp.ev y4 r25 hr25 _) ?_;refine rnN 1 ?_;refine nkN hK ?_;refine zn (b := (!r25)) rfl (fun hc26 => ?_) (fun hc26 => ?_)
 · rw [if_pos hc26] at h;refine rgN [2, 3] ?_;cases h;exact rtA
 rw [xN hc26] at h;apply zd;apply hZ22
 refine rgE tok [0, 9, 10, 11] fun K hK => ?_
 simp only [go_sem, qc, qa, reduceCtorEq, hw4];apply hK
 exact ⟨_, _, _, qr q4.length, ⟨p4 ++ [y4], q4, x2 + 1, rfl, rfl, rfl, hE'4, hi'4, h⟩, (.t [] false)⟩
theorem zY.ev (a0 : List GRaw) (r : List UInt8 × Int) (h : zY a0 = some r) (σ : Store) : ACalls qh 26 [.ds true (qe encGRaw a0) (qb a0) false] σ (fun r' σ' => r' = .tup [.ds true (qe encB r.1) (qb r.1) false, .int .i64 r.2] ∧ σ' = σ) :=
 (zY.ok a0 r h).c σ
def xE.body (yN : GValueNode → Option (List UInt8 × Int)) (yc : Int → GValueValue → Option (GRaw × Int)) (yV : GValueNode → Option (List GRaw × Int)) (a0 : GValueNode) : Option (List UInt8 × Int) :=
 (yV a0).bind fun r1 => (if r1.2 = 0 then (zY r1.1).bind fun r6 => some (r6.1, r6.2) else some (([] : List UInt8), r1.2))
theorem xE.step (yN : GValueNode → Option (List UInt8 × Int)) (yc : Int → GValueValue → Option (GRaw × Int)) (yV : GValueNode → Option (List GRaw × Int)) (w9 : ∀ (a0 : GValueNode) (r : List UInt8 × Int), yN a0 = some r → ACalls qh 138 [.dp (encGValueNode a0) 0] [] (fun r' _ => r' = .tup [.ds true (qe encB r.1) (qb r.1) false, .int .i64 r.2])) (Zz : ∀ (a0 : Int) (a1 : GValueValue) (r : GRaw × Int), yc a0 a1 = some r → ACalls qh 101 [.int .i64 a0, .agg (encGValueValue a1)] [] (fun r' _ => r' = .tup [.agg (encGRaw r.1), .int .i64 r.2])) (Zl : ∀ (a0 : GValueNode) (r : List GRaw × Int), yV a0 = some r → ACalls qh 58 [.dp (encGValueNode a0) 0] [] (fun r' _ => r' = .tup [.ds true (qe encGRaw r.1) (qb r.1) false, .int .i64 r.2])) (a0 : GValueNode) (r : List UInt8 × Int) (h : xE.body yN yc yV a0 = some r) : ACalls qh 138 [.dp (encGValueNode a0) 0] [] (fun r' _ => r' = .tup [.ds true (qe encB r.1) (qb r.1) false, .int .i64 r.2]) := by
 have ev_encode_bytes := fun a0 r h σ => (w9 a0 r h).c σ
 have ev_encode_raw := fun a0 a1 r h σ => (Zz a0 a1 r h).c σ
 have ev_encode_raws := fun a0 r h σ => (Zl a0 r h).c σ
 refine zf (rs := [.tmp 2, .tmp 3]) tok Tryz.func138 rfl Tryz.ntmps138 rfl Tryz.call138 (by simp) ?_;refine zl [(0, .dp (encGValueNode a0) 0)] ⟨rfl, trivial⟩ ?_;unfold xE.body at h;refine rgN [0] ?_
 refine rc [4, 5] fun K hK => ?_
 obtain ⟨r1, hr1, h⟩ := bind_some h;refine rnN 1 ?_;refine clN rfl rfl rfl (ev_encode_raws a0 r1 hr1 _) ?_;refine rnN 5 ?_;refine nkN hK ?_
 refine za fun Z2 hZ2 => ?_
 refine rgN [4, 5, 12] ?_;refine zx rfl (fun hc3 => ?_) (fun hc3 => ?_)
 · rw [if_neg hc3] at h;have t4 := eq_false hc3
   refine rg tok [2, 3] fun K hK => ?_
   simp only [go_sem, qc, qa, t4];apply hK
   cases h;exact rtA
 rw [if_pos hc3] at h;have t5 := eq_true hc3;apply zd;apply hZ2
 refine rc [2, 3] fun K hK => ?_
 obtain ⟨r6, hr6, h⟩ := bind_some h;refine zj tok 1 ?_;simp only [go_sem, qc, qa, t5];refine clN rfl rfl rfl (zY.ev r1.1 r6 hr6 _) ?_;refine rnN 4 ?_;refine nkN hK ?_;cases h;exact rtA
def xF.j3 (m1_2 : GRaw) : Option (GRaw × Int) :=
 (if 4096 < (qb m1_2.fB : Int) then some ((⟨0, 0, 0, []⟩ : GRaw), 4) else some (m1_2, 0))
def xF.body (yN : GValueNode → Option (List UInt8 × Int)) (yc : Int → GValueValue → Option (GRaw × Int)) (yV : GValueNode → Option (List GRaw × Int)) (a0 : Int) (a1 : GValueValue) : Option (GRaw × Int) :=
 (Zb a1).bind fun r8 => (match r8 with | .nil => (xF.j3 (⟨a0, 1, 0, []⟩ : GRaw)) | .num n9 => some ((⟨a0, 0, n9, []⟩ : GRaw), 0) | .str s9 => (xF.j3 (⟨a0, 1, 0, s9⟩ : GRaw)) | .node e9 r9 => (yN (⟨e9, r9⟩ : GValueNode)).bind fun r10 => (if r10.2 = 0 then (xF.j3 (⟨a0, 1, 0, r10.1⟩ : GRaw)) else some ((⟨0, 0, 0, []⟩ : GRaw), r10.2)))
theorem xF.step (yN : GValueNode → Option (List UInt8 × Int)) (yc : Int → GValueValue → Option (GRaw × Int)) (yV : GValueNode → Option (List GRaw × Int)) (w9 : ∀ (a0 : GValueNode) (r : List UInt8 × Int), yN a0 = some r → ACalls qh 138 [.dp (encGValueNode a0) 0] [] (fun r' _ => r' = .tup [.ds true (qe encB r.1) (qb r.1) false, .int .i64 r.2])) (Zz : ∀ (a0 : Int) (a1 : GValueValue) (r : GRaw × Int), yc a0 a1 = some r → ACalls qh 101 [.int .i64 a0, .agg (encGValueValue a1)] [] (fun r' _ => r' = .tup [.agg (encGRaw r.1), .int .i64 r.2])) (Zl : ∀ (a0 : GValueNode) (r : List GRaw × Int), yV a0 = some r → ACalls qh 58 [.dp (encGValueNode a0) 0] [] (fun r' _ => r' = .tup [.ds true (qe encGRaw r.1) (qb r.1) false, .int .i64 r.2])) (a0 : Int) (a1 : GValueValue) (r : GRaw × Int) (h : xF.body yN yc yV a0 a1 = some r) : ACalls qh 101 [.int .i64 a0, .agg (encGValueValue a1)] [] (fun r' _ => r' = .tup [.agg (encGRaw r.1), .int .i64 r.2]) := by
 have ev_encode_bytes := fun a0 r h σ => (w9 a0 r h).c σ
 have ev_encode_raw := fun a0 a1 r h σ => (Zz a0 a1 r h).c σ
 have ev_encode_raws := fun a0 r h σ => (Zl a0 r h).c σ
 refine zf (rs := [.cell 4 62, .tmp 5]) tok Tryz.func101 rfl Tryz.ntmps101 rfl Tryz.call101 (by simp) ?_;refine zl [(0, .int .i64 a0), (1, .agg (encGValueValue a1))] ⟨rfl, rfl, trivial⟩ ?_;unfold xF.body at h;have f1 := ZG a1;unfold AV.one at f1
 refine rg tok [0, 3, 4] fun K hK => ?_
 simp only [go_sem, qc, qa, reduceCtorEq, encGValueValue, f1];apply hK
 refine rgN [0, 3, 4, 6] ?_;refine xy (fun L τ => ∃ (m1_2 : GRaw), L = [(4, .op 0 0 0), (6, .op 1 0 0)] ∧ τ = [.cells 0 [.int .i64 0, .int .i64 0, .int .i64 0, .str []], .cells 0 [.int .i64 m1_2.fTag, .int .i64 m1_2.fWire, .int .i64 m1_2.fN, .str m1_2.fB]] ∧ xF.j3 m1_2 = some r) ?_ ?_
 · refine rc [0, 4, 6, 15] fun K hK => ?_
   obtain ⟨r8, hr8, h⟩ := bind_some h;refine rnN 1 ?_;refine clN rfl rfl rfl (Zb.ev a1 r8 hr8 _) ?_;refine nkN hK ?_;apply ze
   rcases r8 with _ | n9 | s9 | ⟨e9, r9⟩
   · dsimp only at h
     try simp only [anyV_nil]
     refine rg tok [0, 4, 6, 15, 17, 18] fun K hK => ?_
     simp only [go_sem, qc, qa, qd, reduceCtorEq, xV, xZ, TypeDesc.isIface];apply hK
     refine zm rfl ?_
     refine rg tok [4, 6, 15, 23, 24] fun K hK => ?_
     simp only [go_sem, qc, qa, qd, reduceCtorEq, xV, xZ, TypeDesc.isIface];apply hK
     refine zm rfl ?_
     refine rg tok [4, 6, 28, 29] fun K hK => ?_
     simp only [go_sem, qc, qa, qd, xV, xZ, TypeDesc.isIface];apply hK
     refine zm rfl ?_;apply zd;exact ⟨_, _, ⟨(⟨a0, 1, 0, []⟩ : GRaw), rfl, rfl, h⟩, (.t [1, 2] false)⟩
   · dsimp only at h
     try simp only [anyV_num]
     refine rg tok [0, 4, 6, 15, 17, 18] fun K hK => ?_
     simp only [go_sem, qc, qa, qd, reduceCtorEq, xV, xZ, TypeDesc.isIface];apply hK
     refine zp rfl ?_;refine rgN [0, 4, 7] ?_;refine rgN [4, 5] ?_;cases h;exact rtA
   · dsimp only at h
     try simp only [anyV_str]
     refine rg tok [0, 4, 6, 15, 17, 18] fun K hK => ?_
     simp only [go_sem, qc, qa, qd, reduceCtorEq, xV, xZ, TypeDesc.isIface];apply hK
     refine zm rfl ?_
     refine rg tok [4, 6, 15, 23, 24] fun K hK => ?_
     simp only [go_sem, qc, qa, qd, reduceCtorEq, xV, xZ, TypeDesc.isIface];apply hK
     refine zp rfl ?_;refine rgN [4, 6, 8] ?_
     refine rgE tok [4, 6] fun K hK => ?_
     simp only [go_sem, qc, qf, qa, qd];apply hK
     exact ⟨_, _, ⟨(⟨a0, 1, 0, s9⟩ : GRaw), rfl, rfl, h⟩, (.t [1, 2] false)⟩
   dsimp only at h
   try simp only [anyV_node]
   refine rg tok [0, 4, 6, 15, 17, 18] fun K hK => ?_
   simp only [go_sem, qc, qa, qd, reduceCtorEq, xV, xZ, TypeDesc.isIface];apply hK
   refine zm rfl ?_
   refine rg tok [4, 6, 15, 23, 24] fun K hK => ?_
   simp only [go_sem, qc, qa, qd, reduceCtorEq, xV, xZ, TypeDesc.isIface];apply hK
   refine zm rfl ?_
   refine rg tok [4, 6, 28, 29] fun K hK => ?_
   simp only [go_sem, qc, qa, qd, xV, xZ, TypeDesc.isIface];apply hK
   refine zp rfl ?_;refine rgN [4, 6, 9] ?_
   refine rc [4, 6, 10, 11] fun K hK => ?_
   obtain ⟨r10, hr10, h⟩ := bind_some h;refine rnN 1 ?_;refine clN rfl rfl rfl (ev_encode_bytes (⟨e9, r9⟩ : GValueNode) r10 hr10 _) ?_;refine rnN 5 ?_;refine nkN hK ?_
   refine za fun Z11 hZ11 => ?_
   refine rgN [4, 6, 10, 11, 36] ?_;refine zx rfl (fun hc12 => ?_) (fun hc12 => ?_)
   · rw [if_neg hc12] at h;have t13 := eq_false hc12
     refine rg tok [4, 5] fun K hK => ?_
     simp only [go_sem, qc, qf, qa, qd, t13];apply hK
     cases h;exact rtA
   rw [if_pos hc12] at h;have t14 := eq_true hc12;apply zd;apply hZ11;have f15 := vai (T := tab) (src := 34) (dst := 9) rfl rfl rfl rfl rfl rfl r10.1
   refine rgE tok [4, 6] fun K hK => ?_
   simp only [go_sem, qc, qf, qa, qd, t14, f15];apply hK
   exact ⟨_, _, ⟨(⟨a0, 1, 0, r10.1⟩ : GRaw), rfl, rfl, h⟩, (.t [1, 2] false)⟩
 rintro _ _ ⟨m1_2, rfl, rfl, h⟩;unfold xF.j3 at h
 refine za fun Z4 hZ4 => ?_
 refine rgN [4, 6, 45] ?_;refine zx rfl (fun hc5 => ?_) (fun hc5 => ?_)
 · rw [if_pos hc5] at h;have t6 := eq_true hc5
   refine rg tok [4, 5] fun K hK => ?_
   simp only [go_sem, qc, qf, qa, qd, t6];apply hK
   cases h;exact rtA
 rw [if_neg hc5] at h;have t7 := eq_false hc5;apply zd;apply hZ4
 refine rg tok [4, 5] fun K hK => ?_
 simp only [go_sem, qc, qf, qa, qd, t7];apply hK
 cases h;exact rtA
def yn.l24 (yc : Int → GValueValue → Option (GRaw × Int)) (x6 : Int) (rec10 : Int → List GRaw → Option (List GRaw × Int)) (y10 : Int) : List GValueValue → Int → List GRaw → Option (List GRaw × Int)
 | [], x20, l18 => (rec10 (x6 + 1) l18)
 | y24 :: q24, x20, l18 => (yc y10 y24).bind fun r31 => (if r31.2 = 0 then (ZZ (qb l18 + 1) 40).bind fun _u36 => ((yn.l24 yc x6 rec10 y10 q24) (x20 + 1) (l18 ++ [r31.1])) else some (([] : List GRaw), r31.2))
def yn.l10 (yc : Int → GValueValue → Option (GRaw × Int)) (a0 : GValueNode) : List Int → Int → List GRaw → Option (List GRaw × Int)
 | [], x6, l4 => (zN l4).bind fun r12 => some (r12, 0)
 | y10 :: q10, x6, l4 => (xa a0 y10).bind fun r17 => (yn.l24 yc x6 (yn.l10 yc a0 q10) y10 r17 0 l4)
def yn.body (yN : GValueNode → Option (List UInt8 × Int)) (yc : Int → GValueValue → Option (GRaw × Int)) (yV : GValueNode → Option (List GRaw × Int)) (a0 : GValueNode) : Option (List GRaw × Int) :=
 (w5 a0).bind fun r1 => (yx a0).bind fun r3 => (yn.l10 yc a0 r3 0 r1)
theorem yn.step (yN : GValueNode → Option (List UInt8 × Int)) (yc : Int → GValueValue → Option (GRaw × Int)) (yV : GValueNode → Option (List GRaw × Int)) (w9 : ∀ (a0 : GValueNode) (r : List UInt8 × Int), yN a0 = some r → ACalls qh 138 [.dp (encGValueNode a0) 0] [] (fun r' _ => r' = .tup [.ds true (qe encB r.1) (qb r.1) false, .int .i64 r.2])) (Zz : ∀ (a0 : Int) (a1 : GValueValue) (r : GRaw × Int), yc a0 a1 = some r → ACalls qh 101 [.int .i64 a0, .agg (encGValueValue a1)] [] (fun r' _ => r' = .tup [.agg (encGRaw r.1), .int .i64 r.2])) (Zl : ∀ (a0 : GValueNode) (r : List GRaw × Int), yV a0 = some r → ACalls qh 58 [.dp (encGValueNode a0) 0] [] (fun r' _ => r' = .tup [.ds true (qe encGRaw r.1) (qb r.1) false, .int .i64 r.2])) (a0 : GValueNode) (r : List GRaw × Int) (h : yn.body yN yc yV a0 = some r) : ACalls qh 58 [.dp (encGValueNode a0) 0] [] (fun r' _ => r' = .tup [.ds true (qe encGRaw r.1) (qb r.1) false, .int .i64 r.2]) := by
 have ev_encode_bytes := fun a0 r h σ => (w9 a0 r h).c σ
 have ev_encode_raw := fun a0 a1 r h σ => (Zz a0 a1 r h).c σ
 have ev_encode_raws := fun a0 r h σ => (Zl a0 r h).c σ
 refine zf (rs := [.tmp 2, .tmp 3]) tok Tryz.func58 rfl Tryz.ntmps58 rfl Tryz.call58 (by simp) ?_;refine zl [(0, .dp (encGValueNode a0) 0)] ⟨rfl, trivial⟩ ?_;unfold yn.body at h;refine rgN [0] ?_
 refine rc [0, 4] fun K hK => ?_
 obtain ⟨r1, hr1, h⟩ := bind_some h;refine rnN 1 ?_;refine clN rfl rfl rfl (@id (ACalls qh 98 [.dp (encGValueNode a0) 0] [] (fun r' σ' => r' = .os true 4 0 0 0 (qb r1) false ∧ σ' = [.cells 0 (qe encGRaw r1)])) ((w5.own a0 r1 hr1).ownAt0 (by simp only [push_cast]) (by simp only [push_cast]) _)) ?_;refine rnN 1 ?_;refine nkN hK ?_
 refine za fun Z2 hZ2 => ?_
 refine rc [0, 4, 14, 15, 16] fun K hK => ?_
 obtain ⟨r3, hr3, h⟩ := bind_some h;refine rnN 1 ?_;refine clN rfl rfl rfl (yx.ev a0 r3 hr3 _) ?_;refine rnN 2 ?_;refine nkN hK ?_;apply ze
 refine yP 14 fun hb10 => ?_
 replace hb10 : qb r3 ≤ 9223372036854775807 := hb10.1;refine zq (fun m L τ => ∃ (p10 q10 : List Int) (x6 : Int) (l4 : List GRaw) (v5 : Nat), m = qb q10 ∧ L = [(0, .dp (encGValueNode a0) 0), (4, .os true 4 0 v5 0 (qb l4) false), (14, .ds true (qe encI r3) (qb r3) false), (15, .int .i64 (qb r3 : Int)), (16, .int .i64 x6)] ∧ τ = [.cells v5 (qe encGRaw l4)] ∧ r3 = p10 ++ q10 ∧ x6 = (qb p10 : Int) ∧ yn.l10 yc a0 q10 x6 l4 = some r) _ ⟨[], r3, 0, r1, 0, rfl, rfl, rfl, rfl, rfl, h⟩ .s ?_;rintro m L τ ⟨p10, q10, x6, l4, v5, rfl, rfl, rfl, hE10, hi10, h⟩
 rcases q10 with _ | ⟨y10, q10⟩
 · have hz10 := yl hE10 hi10;simp only [yn.l10] at h
   refine rg tok [0, 4, 14, 15, 16, 17] fun K hK => ?_
   simp only [go_sem, qc, qa, reduceCtorEq, hz10];apply hK
   refine za fun Z11 hZ11 => ?_
   refine zm rfl ?_;apply zv;apply hZ2
   refine rc [2, 3] fun K hK => ?_
   obtain ⟨r12, hr12, h⟩ := bind_some h;refine rnN 1 ?_;refine Xq (L := [(43, .ds true (qe encGRaw l4) (qb l4) false)]) (τ := []) (.t [] false) ?_;refine clN rfl rfl rfl (zN.ev l4 r12 hr12 _) ?_;refine rnN 2 ?_;refine nkN hK ?_;cases h;exact rtA
 obtain ⟨hz10, hw10, hx10, hE'10, hi'10⟩ := zW hE10 hi10 hb10;simp only [yn.l10] at h
 refine rg tok [0, 4, 14, 15, 16, 17] fun K hK => ?_
 simp only [go_sem, qc, qa, reduceCtorEq, hz10];apply hK
 refine za fun Z13 hZ13 => ?_
 refine zp rfl ?_;apply zd;apply hZ13
 refine za fun Z14 hZ14 => ?_
 apply ze;have f15 := E45.idxS hx10;have f16 := E45.fldS0 (f := 3) rfl rfl hx10
 refine rg tok [0, 4, 6, 14, 15, 16] fun K hK => ?_
 simp only [go_sem, qc, qa, reduceCtorEq, encI, f15, f16];apply hK
 refine rc [0, 4, 6, 14, 15, 16, 22, 23, 24] fun K hK => ?_
 obtain ⟨r17, hr17, h⟩ := bind_some h;refine rnN 2 ?_;refine clN rfl rfl rfl (xa.ev a0 y10 r17 hr17 _) ?_;refine rnN 2 ?_;refine nkN hK ?_;apply ze
 refine yP 22 fun hb24 => ?_
 replace hb24 : qb r17 ≤ 9223372036854775807 := hb24.1;refine zq (fun m L τ => ∃ (p24 q24 : List GValueValue) (x20 : Int) (l18 : List GRaw) (v19 : Nat), m = qb q24 ∧ L = [(0, .dp (encGValueNode a0) 0), (4, .os true 4 0 v19 0 (qb l18) false), (6, .int .i64 y10), (14, .ds true (qe encI r3) (qb r3) false), (15, .int .i64 (qb r3 : Int)), (16, .int .i64 x6), (22, .ds true (qe encGValueValue r17) (qb r17) false), (23, .int .i64 (qb r17 : Int)), (24, .int .i64 x20)] ∧ τ = [.cells v19 (qe encGRaw l18)] ∧ r17 = p24 ++ q24 ∧ x20 = (qb p24 : Int) ∧ yn.l24 yc x6 (yn.l10 yc a0 q10) y10 q24 x20 l18 = some r) _ ⟨[], r17, 0, l4, v5, rfl, rfl, rfl, rfl, rfl, h⟩ .s ?_;rintro m L τ ⟨p24, q24, x20, l18, v19, rfl, rfl, rfl, hE24, hi24, h⟩
 rcases q24 with _ | ⟨y24, q24⟩
 · have hz24 := yl hE24 hi24;simp only [yn.l24] at h
   refine rg tok [0, 4, 6, 14, 15, 16, 22, 23, 24, 25] fun K hK => ?_
   simp only [go_sem, qc, qa, reduceCtorEq, hz24];apply hK
   refine za fun Z25 hZ25 => ?_
   refine zm rfl ?_;apply zv;apply hZ14
   refine rgE tok [0, 4, 14, 15, 16] fun K hK => ?_
   simp only [go_sem, qc, qa, reduceCtorEq, hw10];apply hK
   exact ⟨_, _, _, qr q10.length, ⟨p10 ++ [y10], q10, x6 + 1, l18, v19, rfl, rfl, rfl, hE'10, hi'10, h⟩, .s⟩
 obtain ⟨hz24, hw24, hx24, hE'24, hi'24⟩ := zW hE24 hi24 hb24;simp only [yn.l24] at h
 refine rg tok [0, 4, 6, 14, 15, 16, 22, 23, 24, 25] fun K hK => ?_
 simp only [go_sem, qc, qa, reduceCtorEq, hz24];apply hK
 refine za fun Z26 hZ26 => ?_
 refine zp rfl ?_;apply zd;apply hZ26
 refine za fun Z27 hZ27 => ?_
 apply ze;have f28 := E156.idxS hx24;have f29 := E156.loadS rfl rfl hx24;have f30 := ZG y24;unfold AV.one at f30
 refine rg tok [0, 4, 6, 8, 14, 15, 16, 22, 23, 24] fun K hK => ?_
 simp only [go_sem, qc, qf, qa, reduceCtorEq, encGValueValue, f28, f29, f30];apply hK
 refine rc [0, 4, 6, 9, 10, 14, 15, 16, 22, 23, 24] fun K hK => ?_
 obtain ⟨r31, hr31, h⟩ := bind_some h;refine rnN 2 ?_;refine clN rfl rfl rfl (ev_encode_raw y10 y24 r31 hr31 _) ?_;refine zj tok 6 ?_;simp only [go_sem, qc, qf, qa, qd, reduceCtorEq, encGRaw];refine nkN hK ?_
 refine za fun Z32 hZ32 => ?_
 refine rgN [0, 4, 6, 9, 10, 14, 15, 16, 22, 23, 24, 35] ?_;refine zx rfl (fun hc33 => ?_) (fun hc33 => ?_)
 · rw [if_neg hc33] at h;have t34 := eq_false hc33
   refine rg tok [2, 3] fun K hK => ?_
   simp only [go_sem, qc, qa, reduceCtorEq, t34];apply hK
   cases h;exact rtA
 rw [if_pos hc33] at h;have t35 := eq_true hc33;apply zd;apply hZ32;obtain ⟨_u36, hu36, h⟩ := bind_some h;have gu36 := yd hu36;have f37 := (zr E28.len l18)
 refine rgE tok [0, 4, 6, 14, 15, 16, 22, 23, 24] fun K hK => ?_
 simp only [go_sem, qc, qf, qa, qd, qq, reduceCtorEq, zH, zX, q2, qW, true_and, ub, z6, zM, yg, t35, gu36, f37, yv, q9, qY, AV.one, qU, qz, qj, ql, qm, qE];apply hK
 apply hZ27
 refine rgE tok [0, 4, 6, 14, 15, 16, 22, 23, 24] fun K hK => ?_
 simp only [go_sem, qc, qa, reduceCtorEq, hw24];apply hK
 exact ⟨_, _, _, qr q24.length, ⟨p24 ++ [y24], q24, x20 + 1, l18 ++ [r31.1], v19 + 1, rfl, rfl, rfl, hE'24, hi'24, h⟩, (.t [0] false)⟩
mutual
def xE : Nat → GValueNode → Option (List UInt8 × Int)
 | 0, _ => none
 | k + 1, a0 => xE.body (xE k) (xF k) (yn k) a0
def xF : Nat → Int → GValueValue → Option (GRaw × Int)
 | 0, _, _ => none
 | k + 1, a0, a1 => xF.body (xE k) (xF k) (yn k) a0 a1
def yn : Nat → GValueNode → Option (List GRaw × Int)
 | 0, _ => none
 | k + 1, a0 => yn.body (xE k) (xF k) (yn k) a0
end
theorem xE.all (k : Nat) : (∀ (a0 : GValueNode) (r : List UInt8 × Int), xE k a0 = some r → ACalls qh 138 [.dp (encGValueNode a0) 0] [] (fun r' _ => r' = .tup [.ds true (qe encB r.1) (qb r.1) false, .int .i64 r.2])) ∧ (∀ (a0 : Int) (a1 : GValueValue) (r : GRaw × Int), xF k a0 a1 = some r → ACalls qh 101 [.int .i64 a0, .agg (encGValueValue a1)] [] (fun r' _ => r' = .tup [.agg (encGRaw r.1), .int .i64 r.2])) ∧ (∀ (a0 : GValueNode) (r : List GRaw × Int), yn k a0 = some r → ACalls qh 58 [.dp (encGValueNode a0) 0] [] (fun r' _ => r' = .tup [.ds true (qe encGRaw r.1) (qb r.1) false, .int .i64 r.2])) := by
 induction k with
 | zero => exact ⟨(fun a0 r h => by simp only [xE] at h; cases h), (fun a0 a1 r h => by simp only [xF] at h; cases h), (fun a0 r h => by simp only [yn] at h; cases h)⟩
 | succ k ih => exact ⟨(fun a0 r h => xE.step _ _ _ ih.1 ih.2.1 ih.2.2 a0 r (by simpa only [xE] using h)), (fun a0 a1 r h => xF.step _ _ _ ih.1 ih.2.1 ih.2.2 a0 a1 r (by simpa only [xF] using h)), (fun a0 r h => yn.step _ _ _ ih.1 ih.2.1 ih.2.2 a0 r (by simpa only [yn] using h))⟩
theorem yn.ev (k : Nat) (a0 : GValueNode) (r : List GRaw × Int) (h : yn k a0 = some r) (σ : Store) : ACalls qh 58 [.dp (encGValueNode a0) 0] σ (fun r' σ' => r' = .tup [.ds true (qe encGRaw r.1) (qb r.1) false, .int .i64 r.2] ∧ σ' = σ) :=
 ((xE.all k).2.2 a0 r h).c σ
def Zc (a0 : GTree) : Option (List GRaw × Int) :=
 (Yl a0).bind fun r1 => (if ((!r1.2) || (!(decide (a0.fKind = 3)))) = true then some (([] : List GRaw), 1) else (yI r1.1).bind fun r5 => (yn rounds r5).bind fun r6 => some (r6.1, r6.2))
theorem Zc.ok (a0 : GTree) (r : List GRaw × Int) (h : Zc a0 = some r) : ACalls qh 37 [.agg (cellsGTree a0)] [] (fun r' _ => r' = .tup [.ds true (qe encGRaw r.1) (qb r.1) false, .int .i64 r.2]) := by
 refine zf (rs := [.tmp 2, .tmp 3]) tok Tryz.func37 rfl Tryz.ntmps37 rfl Tryz.call37 (by simp) ?_;refine zl [(0, .agg (cellsGTree a0))] ⟨rfl, trivial⟩ ?_;unfold Zc at h
 refine rg tok [1] fun K hK => ?_
 simp only [go_sem, qc, qa, qd, reduceCtorEq, cellsGTree];apply hK
 refine rc [1, 4, 5] fun K hK => ?_
 obtain ⟨r1, hr1, h⟩ := bind_some h;refine rnN 1 ?_;refine clN rfl rfl rfl (Yl.ev a0 r1 hr1 _) ?_;have f2 := ZG r1.1;unfold AV.one at f2;refine zj tok 6 ?_;simp only [go_sem, qc, qf, qa, qd, encGValueValue, f2];refine nkN hK ?_
 refine za fun Z3 hZ3 => ?_
 refine rc [4, 17] fun K hK => ?_
 refine rnN 3 ?_;refine zh 4 (fun L τ => L = [(4, .op 1 0 0), (17, .bool ((!r1.2) || (!(decide (a0.fKind = 3)))))] ∧ τ = [.cells 0 (cellsGTree a0), .cells 0 [ifcV r1.1]]) ?_ ?_
 · refine zI (b := (!r1.2)) 13 rfl (fun hg13 => ?_) (fun hg13 => ?_)
   · refine rnN 4 ?_;refine zb ⟨rfl, _, _, ⟨rfl, rfl⟩, .b hg13⟩
   refine rnN 4 ?_;refine zb ⟨rfl, _, _, ⟨rfl, rfl⟩, .b hg13⟩
 rintro _ _ ⟨rfl, rfl⟩;refine nkN hK ?_;refine zn (b := ((!r1.2) || (!(decide (a0.fKind = 3))))) rfl (fun hc4 => ?_) (fun hc4 => ?_)
 · rw [if_pos hc4] at h;refine rgN [2, 3] ?_;cases h;exact rtA
 rw [xN hc4] at h;apply zd;apply hZ3
 refine rc [2, 3] fun K hK => ?_
 obtain ⟨r5, hr5, h⟩ := bind_some h;refine rnN 1 ?_;refine clN rfl rfl rfl (yI.ev r1.1 r5 hr5 _) ?_;obtain ⟨r6, hr6, h⟩ := bind_some h;refine clN rfl rfl rfl (yn.ev rounds r5 r6 hr6 _) ?_;refine rnN 4 ?_;refine nkN hK ?_;cases h;exact rtA
theorem Zc.ev (a0 : GTree) (r : List GRaw × Int) (h : Zc a0 = some r) (σ : Store) : ACalls qh 37 [.agg (cellsGTree a0)] σ (fun r' σ' => r' = .tup [.ds true (qe encGRaw r.1) (qb r.1) false, .int .i64 r.2] ∧ σ' = σ) :=
 (Zc.ok a0 r h).c σ
def wt (a0 : GTree) : Option (List UInt8 × Int) :=
 (Zc a0).bind fun r1 => (if r1.2 = 0 then (zY r1.1).bind fun r6 => some (r6.1, r6.2) else some (([] : List UInt8), r1.2))
theorem wt.ok (a0 : GTree) (r : List UInt8 × Int) (h : wt a0 = some r) : ACalls qh 14 [.agg (cellsGTree a0)] [] (fun r' _ => r' = .tup [.ds true (qe encB r.1) (qb r.1) false, .int .i64 r.2]) := by
 refine zf (rs := [.tmp 2, .tmp 3]) tok Tryz.func14 rfl Tryz.ntmps14 rfl Tryz.call14 (by simp) ?_;refine zl [(0, .agg (cellsGTree a0))] ⟨rfl, trivial⟩ ?_;unfold wt at h
 refine rg tok [1] fun K hK => ?_
 simp only [go_sem, qc, qa, qd, reduceCtorEq, cellsGTree];apply hK
 refine rc [4, 5] fun K hK => ?_
 obtain ⟨r1, hr1, h⟩ := bind_some h;refine rnN 1 ?_;refine clN rfl rfl rfl (Zc.ev a0 r1 hr1 _) ?_;refine rnN 5 ?_;refine nkN hK ?_
 refine za fun Z2 hZ2 => ?_
 refine rgN [4, 5, 12] ?_;refine zx rfl (fun hc3 => ?_) (fun hc3 => ?_)
 · rw [if_neg hc3] at h;have t4 := eq_false hc3
   refine rg tok [2, 3] fun K hK => ?_
   simp only [go_sem, qc, qa, t4];apply hK
   cases h;exact rtA
 rw [if_pos hc3] at h;have t5 := eq_true hc3;apply zd;apply hZ2
 refine rc [2, 3] fun K hK => ?_
 obtain ⟨r6, hr6, h⟩ := bind_some h;refine zj tok 1 ?_;simp only [go_sem, qc, qa, t5];refine clN rfl rfl rfl (zY.ev r1.1 r6 hr6 _) ?_;refine rnN 4 ?_;refine nkN hK ?_;cases h;exact rtA
theorem wt.ev (a0 : GTree) (r : List UInt8 × Int) (h : wt a0 = some r) (σ : Store) : ACalls qh 14 [.agg (cellsGTree a0)] σ (fun r' σ' => r' = .tup [.ds true (qe encB r.1) (qb r.1) false, .int .i64 r.2] ∧ σ' = σ) :=
 (wt.ok a0 r h).c σ
def wO (a0 : GSchema) (a1 : List UInt8) (a2 : List UInt8) : Option Bool :=
 (xo a0 a1 a2).bind fun r1 => (if r1.2 = 0 then (wt r1.1).bind fun r6 => some ((decide (r6.2 = 0)) && (decide (r6.1 = a2))) else some false)
theorem wO.ok (a0 : GSchema) (a1 : List UInt8) (a2 : List UInt8) (r : Bool) (h : wO a0 a1 a2 = some r) : ACalls qh 24 [.agg (encGSchema a0), .str a1, .ds true (qe encB a2) (qb a2) false] [] (fun r' _ => r' = .bool r) := by
 refine zf (rs := [.tmp 6]) tok Tryz.func24 rfl Tryz.ntmps24 rfl Tryz.call24 (by simp) ?_;refine zl [(0, .agg (encGSchema a0)), (1, .str a1), (2, .ds true (qe encB a2) (qb a2) false)] ⟨rfl, rfl, rfl, trivial⟩ ?_;unfold wO at h
 refine rg tok [1, 2, 3] fun K hK => ?_
 simp only [go_sem, qc, qa, qd, reduceCtorEq, encGSchema];apply hK
 refine rc [2, 7, 8] fun K hK => ?_
 obtain ⟨r1, hr1, h⟩ := bind_some h;refine rnN 3 ?_;refine clN rfl rfl rfl (xo.ev a0 a1 a2 r1 hr1 _) ?_;refine zj tok 6 ?_;simp only [go_sem, qc, qf, qa, qd, cellsGTree];refine nkN hK ?_
 refine za fun Z2 hZ2 => ?_
 refine rgN [2, 7, 18] ?_;refine zx rfl (fun hc3 => ?_) (fun hc3 => ?_)
 · rw [if_neg hc3] at h;have t4 := eq_false hc3
   refine rg tok [6] fun K hK => ?_
   simp only [go_sem, qc, qa, t4];apply hK
   cases h;exact rtA
 rw [if_pos hc3] at h;have t5 := eq_true hc3;apply zd;apply hZ2
 refine rc [2, 8, 9] fun K hK => ?_
 obtain ⟨r6, hr6, h⟩ := bind_some h;refine zj tok 1 ?_;simp only [go_sem, qc, qf, qa, qd, t5];refine clN rfl rfl rfl (wt.ev r1.1 r6 hr6 _) ?_;refine rnN 5 ?_;refine nkN hK ?_
 refine rc [6] fun K hK => ?_
 refine rnN 3 ?_;refine zh 6 (fun L τ => L = [(32, .bool ((decide (r6.2 = 0)) && (decide (r6.1 = a2))))] ∧ τ = [.cells 0 (encGSchema a0), .cells 0 (cellsGTree r1.1)]) ?_ ?_
 · refine yA 26 rfl (fun hg26 => ?_) (fun hg26 => ?_)
   · have t7 := eq_true hg26;have f8 := vai (T := tab) (src := 34) (dst := 9) rfl rfl rfl rfl rfl rfl r6.1;have f9 := vai (T := tab) (src := 34) (dst := 9) rfl rfl rfl rfl rfl rfl a2;refine zj tok 6 ?_;simp only [go_sem, qc, qa, f8, f9];refine zb ⟨rfl, _, _, ⟨rfl, rfl⟩, .p t7⟩
   have t10 := eq_false hg26;refine rnN 6 ?_;refine zb ⟨rfl, _, _, ⟨rfl, rfl⟩, .p t10⟩
 rintro _ _ ⟨rfl, rfl⟩;refine rnN 1 ?_;refine nkN hK ?_;cases h;exact rtA
def xH  : Option Bool :=
 (xo (⟨[97], [(⟨[109], ([] : List GField), ([] : List Int)⟩ : GMessage)], ([] : List GEnumeration), ([] : List GMethod)⟩ : GSchema) [109] [(2 : UInt8), (10 : UInt8)]).bind fun r2 => (if ((decide (r2.2 = 0)) && (decide ((qb r2.1.fRest : Int) = 1))) = true then (wV r2.1.fRest 0).bind fun y5 => some (decide (y5.fTag = 1) && (decide (y5.fWire = 0) && (decide (y5.fN = 5) && decide (y5.fB = [])))) else some false).bind fun c5 => (if c5 = true then (wO (⟨[97], [(⟨[109], ([] : List GField), ([] : List Int)⟩ : GMessage)], ([] : List GEnumeration), ([] : List GMethod)⟩ : GSchema) [109] [(2 : UInt8), (10 : UInt8)]).bind fun r10 => some r10 else some false).bind fun c9 => some c9
theorem xH.ok  (r : Bool) (h : xH = some r) : ACalls qh 13 [] [] (fun r' _ => r' = .bool r) := by
 refine zf (rs := [.tmp 0]) tok Tryz.func13 rfl Tryz.ntmps13 rfl Tryz.call13 (by simp) ?_;refine zl [] trivial ?_;unfold xH at h;refine rgN [] ?_
 refine rg tok [1] fun K hK => ?_
 simp only [go_sem, qc, qf, qa, qd, qq, zH, zX, q2, qW, true_and, ub];apply hK
 refine rc [1, 2, 3] fun K hK => ?_
 have f1 := fun (o0 : ZR) (o1 : ZR) (τ : Store) => conv_same (T := tab) (s := 34) (off := 0) (len := 2) (sz := 1) (nl := true) (t := true) rfl rfl rfl rfl (σ := o0 :: o1 :: .cells 0 [.int .u8 2, .int .u8 10] :: τ) (id := 2) (ver := 0) (by simp only [Store.at_hd, Store.at_tl, if_true]; rfl) ⟨by simp, by decide, rfl⟩
 obtain ⟨r2, hr2, h⟩ := bind_some h;refine zj tok 3 ?_;simp only [go_sem, qc, qf, qa, qd, qq, zH, zX, q2, qW, true_and, ub, f1];refine Xq (L := [(1, .op 0 0 0), (8, .agg [.str [97], .ds true (qe encGMessage [(⟨[109], ([] : List GField), ([] : List Int)⟩ : GMessage)]) (qb [(⟨[109], ([] : List GField), ([] : List Int)⟩ : GMessage)]) false, .ds true (qe encGEnumeration ([] : List GEnumeration)) (qb ([] : List GEnumeration)) false, .ds true (qe encGMethod ([] : List GMethod)) (qb ([] : List GMethod)) false]), (10, .ds true (qe encB [(2 : UInt8), (10 : UInt8)]) (qb [(2 : UInt8), (10 : UInt8)]) false)]) (τ := [.cells 0 [.str [97], .ds true (qe encGMessage [(⟨[109], ([] : List GField), ([] : List Int)⟩ : GMessage)]) (qb [(⟨[109], ([] : List GField), ([] : List Int)⟩ : GMessage)]) false, .ds true (qe encGEnumeration ([] : List GEnumeration)) (qb ([] : List GEnumeration)) false, .ds true (qe encGMethod ([] : List GMethod)) (qb ([] : List GMethod)) false]]) (.t [1] true) ?_;refine clN rfl rfl rfl (ACalls.loose (xo.ev (⟨[97], [(⟨[109], ([] : List GField), ([] : List Int)⟩ : GMessage)], ([] : List GEnumeration), ([] : List GMethod)⟩ : GSchema) [109] [(2 : UInt8), (10 : UInt8)] r2 hr2 _)) ?_;refine zj tok 6 ?_;simp only [go_sem, qc, qf, qa, qd, cellsGTree];refine nkN hK ?_
 refine rc [0] fun K hK => ?_
 refine rnN 3 ?_;refine zh 5 (fun L τ => L = [(1, .op 0 0 0), (2, .op 1 0 0), (21, .bool ((decide (r2.2 = 0)) && (decide ((qb r2.1.fRest : Int) = 1))))] ∧ τ = [.cells 0 [.str [97], .ds true (qe encGMessage [(⟨[109], ([] : List GField), ([] : List Int)⟩ : GMessage)]) (qb [(⟨[109], ([] : List GField), ([] : List Int)⟩ : GMessage)]) false, .ds true (qe encGEnumeration ([] : List GEnumeration)) (qb ([] : List GEnumeration)) false, .ds true (qe encGMethod ([] : List GMethod)) (qb ([] : List GMethod)) false], .cells 0 (cellsGTree r2.1)]) ?_ ?_
 · refine yA 16 rfl (fun hg16 => ?_) (fun hg16 => ?_)
   · have t3 := eq_true hg16;refine rnN 5 ?_;refine zb ⟨rfl, _, _, ⟨rfl, rfl⟩, .p t3⟩
   have t4 := eq_false hg16;refine rnN 5 ?_;refine zb ⟨rfl, _, _, ⟨rfl, rfl⟩, .p t4⟩
 rintro _ _ ⟨rfl, rfl⟩;refine rnN 1 ?_;obtain ⟨c5, hc5, h⟩ := bind_some h;refine zh 7 (fun L τ => L = [(1, .op 0 0 0), (29, .bool c5)] ∧ τ = [.cells 0 [.str [97], .ds true (qe encGMessage [(⟨[109], ([] : List GField), ([] : List Int)⟩ : GMessage)]) (qb [(⟨[109], ([] : List GField), ([] : List Int)⟩ : GMessage)]) false, .ds true (qe encGEnumeration ([] : List GEnumeration)) (qb ([] : List GEnumeration)) false, .ds true (qe encGMethod ([] : List GMethod)) (qb ([] : List GMethod)) false], .cells 0 (cellsGTree r2.1)]) ?_ ?_
 · refine zI (b := ((decide (r2.2 = 0)) && (decide ((qb r2.1.fRest : Int) = 1)))) 22 rfl (fun hg22 => ?_) (fun hg22 => ?_)
   · rw [if_pos hg22] at hc5;obtain ⟨y6, hy6, hc5⟩ := bind_some hc5;have f7 := E28.idxS hy6;have f8 := E28.loadS rfl rfl hy6;refine zj tok 7 ?_;simp only [go_sem, qc, qf, qa, qd, encGRaw, f7, f8, evEqA, ceqL, ceq];cases hc5;refine zb ⟨rfl, _, _, ⟨rfl, rfl⟩, .b hg22⟩
   rw [xN hg22] at hc5;refine rnN 7 ?_;cases hc5;refine zb ⟨rfl, _, _, ⟨rfl, rfl⟩, .b hg22⟩
 rintro _ _ ⟨rfl, rfl⟩;refine rnN 1 ?_;obtain ⟨c9, hc9, h⟩ := bind_some h;refine zh 5 (fun L τ => L = [(35, .bool c9)] ∧ τ = []) ?_ ?_
 · refine zI (b := c5) 30 rfl (fun hg30 => ?_) (fun hg30 => ?_)
   · rw [if_pos hg30] at hc9
     have f10 := fun (o0 : ZR) (o1 : ZR) (τ : Store) => conv_same (T := tab) (s := 34) (off := 0) (len := 2) (sz := 1) (nl := true) (t := true) rfl rfl rfl rfl (σ := o0 :: o1 :: .cells 0 [.int .u8 2, .int .u8 10] :: τ) (id := 2) (ver := 0) (by simp only [Store.at_hd, Store.at_tl, if_true]; rfl) ⟨by simp, by decide, rfl⟩
     obtain ⟨r11, hr11, hc9⟩ := bind_some hc9;refine zj tok 3 ?_;simp only [go_sem, qc, qf, qa, qd, qq, zH, zX, q2, qW, true_and, ub, f10];refine clN rfl rfl rfl (wO.ok (⟨[97], [(⟨[109], ([] : List GField), ([] : List Int)⟩ : GMessage)], ([] : List GEnumeration), ([] : List GMethod)⟩ : GSchema) [109] [(2 : UInt8), (10 : UInt8)] r11 hr11).ld ?_;refine rnN 1 ?_;cases hc9;refine zb ⟨rfl, _, _, ⟨rfl, rfl⟩, .told [] false (by decide) (by simp) (by first | rfl | simp) (by first | rfl | (simp only [← qV, ← qi]; simp only [go_sem, qc, qf, qa, qd, qq, qC, reduceIte, reduceCtorEq, push_cast, if_true, qy, qm, qG, qw, qD, qK, qR, qN, qL, qH, qx, TLS, encGMessage, and_self, zB]; done) | (simp only [go_sem, qc, qf, qa, qd, qq, qC, reduceIte, reduceCtorEq, push_cast, if_true, qy, qm, qG, qw, qD, qK, qR, qN, qL, qH, qx, TLS, encB, encI, encS, encBo, va6, wH, qV, qT, ud, qB, qz, qi, qj, ql, qm, qp, qE, uR, encGMessage, and_self, zB] <;> first | rfl | (and_intros <;> rfl))) (by first | rfl | (simp only [← qV, ← qi]; simp only [go_sem, qc, qf, qa, qd, qq, qC, reduceIte, reduceCtorEq, push_cast, hg30, if_true, qy, qm, qG, qw, qD, qK, qR, qN, qL, qH, qx, TLS, encGMessage, and_self, zB]; done) | (simp only [go_sem, qa, push_cast, hg30, if_true, TLS, ud, qB, ql, encGMessage, and_self] <;> first | rfl | (and_intros <;> rfl)))⟩
   rw [xN hg30] at hc9;refine zj tok 5 ?_;simp only [go_sem, qc, qa, true_and];cases hc9;refine zb ⟨rfl, _, _, ⟨rfl, rfl⟩, .told [] false (by decide) (by simp) (by first | rfl | simp) (by first | rfl | (simp only [← qV, ← qi]; simp only [go_sem, qc, qf, qa, qd, qq, qC, reduceIte, reduceCtorEq, push_cast, if_true, qy, qm, qG, qw, qD, qK, qR, qN, qL, qH, qx, TLS, encGMessage, and_self, zB]; done) | (simp only [go_sem, qc, qf, qa, qd, qq, qC, reduceIte, reduceCtorEq, push_cast, if_true, qy, qm, qG, qw, qD, qK, qR, qN, qL, qH, qx, TLS, encB, encI, encS, encBo, va6, wH, qV, qT, ud, qB, qz, qi, qj, ql, qm, qp, qE, uR, encGMessage, and_self, zB] <;> first | rfl | (and_intros <;> rfl))) (by first | rfl | (simp only [← qV, ← qi]; simp only [go_sem, qc, qf, qa, qd, qq, qC, reduceIte, reduceCtorEq, push_cast, hg30, if_true, qy, qm, qG, qw, qD, qK, qR, qN, qL, qH, qx, TLS, encGMessage, and_self, zB]; done) | (simp only [go_sem, qa, push_cast, hg30, if_true, TLS, ud, qB, ql, encGMessage, and_self] <;> first | rfl | (and_intros <;> rfl)))⟩
 rintro _ _ ⟨rfl, rfl⟩;refine rnN 1 ?_;refine nkN hK ?_;cases h;exact rtA
theorem xH.ev  (r : Bool) (h : xH = some r) (σ : Store) : ACalls qh 13 [] σ (fun r' σ' => r' = .bool r ∧ σ' = σ) :=
 (xH.ok  r h).c σ
def wo (a0 : List Int) : Option (List Int) :=
 (ZZ (qb a0) 8).bind fun _u2 => some a0
theorem wo.own (a0 : List Int) (r : List Int) (h : wo a0 = some r) : ACalls qh 42 [.ds true (qe encI a0) (qb a0) false] [] (fun r' σ' => r' = .os true 1 0 0 0 (qb r) false ∧ σ' = [.cells 0 (qe encI r)]) := by
 refine ACalls.own0 (by simp only [push_cast]) ?_;refine ZM (rs := [.tmp 2]) tok Tryz.func42 rfl Tryz.ntmps42 rfl Tryz.call42 (by simp) ?_;refine zl [(0, .ds true (qe encI a0) (qb a0) false)] ⟨rfl, trivial⟩ ?_;unfold wo at h;refine rgN [0] ?_
 have f1 := fun nl tt σ => xK E45.len a0 nl tt σ
 obtain ⟨_u2, hu2, h⟩ := bind_some h;have gu2 := yd hu2
 refine rg tok [2] fun K hK => ?_
 simp only [go_sem, qc, qa, reduceCtorEq, z6, zM, yg, true_and, f1, gu2, Zf, qz, ql, qm];apply hK
 refine zU (L := [(2, .os true 1 0 0 0 (qb a0) false)]) (τ := [.cells 0 (qe encI a0)]) .s ?_;apply yB;cases h;simp only [ZC, yQ, xb, xR, exists_eq_left', go_sem];refine ⟨0, 0, by simp, ?_, ?_⟩
 · first | rfl | (simp only [go_sem, qc, qf, qa, qd, qq, qC, reduceIte, reduceCtorEq, push_cast, if_true, qy, qm, qG, qw, qD, qK, qR, qN, qL, qH, qx, zB] <;> rfl)
 first | rfl | (simp only [go_sem, push_cast, qw, zB] <;> rfl)
theorem wo.ok (a0 : List Int) (r : List Int) (h : wo a0 = some r) : ACalls qh 42 [.ds true (qe encI a0) (qb a0) false] [] (fun r' _ => r' = .ds true (qe encI r) (qb r) false) :=
 (wo.own a0 r h).ownData (zr E45.len r) (by simp only [push_cast])
theorem wo.ev (a0 : List Int) (r : List Int) (h : wo a0 = some r) (σ : Store) : ACalls qh 42 [.ds true (qe encI a0) (qb a0) false] σ (fun r' σ' => r' = .ds true (qe encI r) (qb r) false ∧ σ' = σ) :=
 (wo.ok a0 r h).c σ
def ye.l19 (a0 : GSchema) (l4 : List GMessage) : List GEnumeration → Int → List GEnumeration → Option GSchema
 | [], x15, l13 => some (⟨a0.fName, l4, l13, a0.fMethods⟩ : GSchema)
 | y19 :: q19, x15, l13 => (ZZ (qb y19.fValues) 24).bind fun _u28 => (ZZ (qb l13 + 1) 40).bind fun _u29 => ((ye.l19 a0 l4 q19) (x15 + 1) (l13 ++ [(⟨y19.fName, y19.fValues⟩ : GEnumeration)]))
def ye.l10 (a0 : GSchema) : List GMessage → Int → List GMessage → Option GSchema
 | [], x6, l4 => (ye.l19 a0 l4 a0.fEnums 0 ([] : List GEnumeration))
 | y10 :: q10, x6, l4 => (ZZ (qb y10.fFields) 56).bind fun _u36 => (wo y10.fReserved).bind fun r37 => (ZZ (qb l4 + 1) 64).bind fun _u38 => ((ye.l10 a0 q10) (x6 + 1) (l4 ++ [(⟨y10.fName, y10.fFields, r37⟩ : GMessage)]))
def ye (a0 : GSchema) : Option GSchema :=
 (ZZ (qb a0.fMethods) 48).bind fun _u2 => (ye.l10 a0 a0.fMessages 0 ([] : List GMessage))
theorem ye.ok (a0 : GSchema) (r : GSchema) (h : ye a0 = some r) : ACalls qh 17 [.agg (encGSchema a0)] [] (fun r' _ => r' = .agg (encGSchema r)) := by
 refine zf (rs := [.cell 2 26]) tok Tryz.func17 rfl Tryz.ntmps17 rfl Tryz.call17 (by simp) ?_;refine zl [(0, .agg (encGSchema a0))] ⟨rfl, trivial⟩ ?_;unfold ye at h
 refine rg tok [1, 2] fun K hK => ?_
 simp only [go_sem, qc, qa, qd, reduceCtorEq, encGSchema];apply hK
 have f1 := fun nl tt σ => xK E24.len a0.fMethods nl tt σ
 obtain ⟨_u2, hu2, h⟩ := bind_some h;have gu2 := yd hu2
 refine rd [1, 2, 3] fun K hK => ?_
 refine DW.start (T := tab) [.any, .own 2 [], .any, .at [], .eff, .any, .flt, .eff] [(2, [])] ?_;refine DW.runN tok 8 ?_;simp only [go_sem, qc, qf, qa, qd, z6, zM, yg, true_and, encGSchema, f1, gu2, Zf, q9, qY, AV.one, qU, qz, qj, ql, qm, qE];refine DW.fin tok (by decide +kernel) rfl ?_;simp only [zo, upd, qa, reduceIte, yG, xr];apply hK
 refine Zr 3 1 3 rfl (by simp) rfl (L := [(1, .op 0 0 0), (2, .op 1 0 0), (3, .op 3 0 0)]) (τ := [.cells 0 (encGSchema a0), .cells 0 [.str [], .ds true [] 0 true, .ds true [] 0 true, .ds true [] 0 true], .cells 0 (qe encGMethod a0.fMethods), .cells 0 [.str a0.fName, .os true 3 4 0 0 (qb ([] : List GMessage)) false, .ds true [] 0 true, .os true 3 2 0 0 (qb a0.fMethods) false], .cells 0 (qe encGMessage ([] : List GMessage))]) .s ?_;refine Zr 3 2 2 rfl (by simp) rfl (L := [(1, .op 0 0 0), (2, .op 1 0 0), (3, .op 3 0 0)]) (τ := [.cells 0 (encGSchema a0), .cells 0 [.str [], .ds true [] 0 true, .ds true [] 0 true, .ds true [] 0 true], .cells 0 (qe encGMethod a0.fMethods), .cells 0 [.str a0.fName, .os true 3 4 0 0 (qb ([] : List GMessage)) false, .os true 2 5 0 0 (qb ([] : List GEnumeration)) false, .os true 3 2 0 0 (qb a0.fMethods) false], .cells 0 (qe encGMessage ([] : List GMessage)), .cells 0 (qe encGEnumeration ([] : List GEnumeration))]) .s ?_;refine zU (L := [(1, .op 0 0 0), (2, .op 1 0 0), (3, .op 3 0 0)]) (τ := [.cells 0 (encGSchema a0), .cells 0 [.str [], .ds true [] 0 true, .ds true [] 0 true, .ds true [] 0 true], .cells 0 (qe encGMethod a0.fMethods), .cells 0 [.str a0.fName, .os true 3 4 0 0 (qb ([] : List GMessage)) false, .os true 2 5 0 0 (qb ([] : List GEnumeration)) false, .os true 3 2 0 0 (qb a0.fMethods) false], .cells 0 (qe encGMessage ([] : List GMessage)), .cells 0 (qe encGEnumeration ([] : List GEnumeration))]) .s ?_
 refine za fun Z3 hZ3 => ?_
 refine rgN [1, 2, 3, 4] ?_;apply ze
 refine xi 0 rfl fun hb10 => ?_
 replace hb10 : qb a0.fMessages ≤ 9223372036854775807 := hb10.2.1.1;refine zq (fun m L τ => ∃ (p10 q10 : List GMessage) (x6 : Int) (l4 : List GMessage) (v5 : Nat), m = qb q10 ∧ L = [(1, .op 0 0 0), (2, .op 1 0 0), (3, .op 3 0 0), (4, .int .i64 x6)] ∧ τ = [.cells 0 (encGSchema a0), .cells 0 [.str [], .ds true [] 0 true, .ds true [] 0 true, .ds true [] 0 true], .cells 0 (qe encGMethod a0.fMethods), .cells 0 [.str a0.fName, .os true 3 4 v5 0 (qb l4) false, .os true 2 5 0 0 (qb ([] : List GEnumeration)) false, .os true 3 2 0 0 (qb a0.fMethods) false], .cells v5 (qe encGMessage l4), .cells 0 (qe encGEnumeration ([] : List GEnumeration))] ∧ a0.fMessages = p10 ++ q10 ∧ x6 = (qb p10 : Int) ∧ ye.l10 a0 q10 x6 l4 = some r) _ ⟨[], a0.fMessages, 0, ([] : List GMessage), 0, rfl, rfl, rfl, rfl, rfl, h⟩ .s ?_;rintro m L τ ⟨p10, q10, x6, l4, v5, rfl, rfl, rfl, hE10, hi10, h⟩
 rcases q10 with _ | ⟨y10, q10⟩
 · have hz10 := yl hE10 hi10;simp only [ye.l10] at h
   refine za fun Z11 hZ11 => ?_
   refine rg tok [1, 2, 3, 4, 17] fun K hK => ?_
   simp only [go_sem, qc, qa, qd, hz10];apply hK
   refine zm rfl ?_;apply zv;apply hZ3
   refine za fun Z12 hZ12 => ?_
   refine rgN [1, 2, 3, 6] ?_;apply ze
   refine xi 0 rfl fun hb19 => ?_
   replace hb19 : qb a0.fEnums ≤ 9223372036854775807 := hb19.2.2.1.1;refine zq (fun m L τ => ∃ (p19 q19 : List GEnumeration) (x15 : Int) (l13 : List GEnumeration) (v14 : Nat), m = qb q19 ∧ L = [(1, .op 0 0 0), (2, .op 1 0 0), (3, .op 3 0 0), (6, .int .i64 x15)] ∧ τ = [.cells 0 (encGSchema a0), .cells 0 [.str [], .ds true [] 0 true, .ds true [] 0 true, .ds true [] 0 true], .cells 0 (qe encGMethod a0.fMethods), .cells 0 [.str a0.fName, .os true 3 4 v5 0 (qb l4) false, .os true 2 5 v14 0 (qb l13) false, .os true 3 2 0 0 (qb a0.fMethods) false], .cells v5 (qe encGMessage l4), .cells v14 (qe encGEnumeration l13)] ∧ a0.fEnums = p19 ++ q19 ∧ x15 = (qb p19 : Int) ∧ ye.l19 a0 l4 q19 x15 l13 = some r) _ ⟨[], a0.fEnums, 0, ([] : List GEnumeration), 0, rfl, rfl, rfl, rfl, rfl, h⟩ .s ?_;rintro m L τ ⟨p19, q19, x15, l13, v14, rfl, rfl, rfl, hE19, hi19, h⟩
   rcases q19 with _ | ⟨y19, q19⟩
   · have hz19 := yl hE19 hi19;simp only [ye.l19] at h
     refine za fun Z20 hZ20 => ?_
     refine rg tok [1, 2, 3, 6, 43] fun K hK => ?_
     simp only [go_sem, qc, qa, qd, hz19];apply hK
     refine zm rfl ?_;apply zv;apply hZ12;refine rgN [2] ?_;cases h;exact rtA
   obtain ⟨hz19, hw19, hx19, hE'19, hi'19⟩ := zW hE19 hi19 hb19;simp only [ye.l19] at h
   refine za fun Z21 hZ21 => ?_
   refine rg tok [1, 2, 3, 6, 43] fun K hK => ?_
   simp only [go_sem, qc, qa, qd, hz19];apply hK
   refine zp rfl ?_;apply zd;apply hZ21
   refine za fun Z22 hZ22 => ?_
   apply ze;have f23 := E23.idxS hx19;have f24 := E23.fldS0 (f := 9) rfl rfl hx19;have f25 := E23.idxS hx19;have f26 := E23.fldS (f := 82) rfl rfl hx19 (o := 1) (by decide)
   have f27 := fun nl tt σ => xK E82.len y19.fValues nl tt σ
   obtain ⟨_u28, hu28, h⟩ := bind_some h;have gu28 := yd hu28;obtain ⟨_u29, hu29, h⟩ := bind_some h;have gu29 := yd hu29;have f30 := (zr E23.len l13)
   refine rdE [1, 2, 3, 6] fun K hK => ?_
   refine DW.start (T := tab) [.any, .own 2 [], .any, .own 1 [], .any, .any, .any, .own 1 [], .any, .at [], .any, .any, .any, .at [], .eff, .any, .eff, .eff, .any, .eff] [(2, []), (1, [])] ?_;refine DW.runN tok 8 ?_;simp only [go_sem, qc, qa, qd, encGEnumeration, encGSchema, f23, f24, qj, ql, qm];refine DW.runN tok 8 ?_;simp only [go_sem, qc, qf, qa, qd, z6, zM, yg, true_and, encGEnumeration, f23, f26, f27, gu28, Zf, q9, qY, AV.one, qU, qz, qj, ql, qm, qE];refine DW.runN tok 4 ?_;simp only [go_sem, qc, qf, qa, qd, qq, zH, zX, q2, qW, true_and, ub, z6, zM, yg, gu29, f30, q9, qY, AV.one, qU, qz, qj, ql, qm, qE, yv];refine DW.fin tok (by decide +kernel) rfl ?_;simp only [zo, upd, qa, reduceIte, yG, xr];apply hK
   apply hZ22
   refine rgE tok [1, 2, 3, 6] fun K hK => ?_
   simp only [go_sem, qc, qa, hw19];apply hK
   exact ⟨_, _, _, qr q19.length, ⟨p19 ++ [y19], q19, x15 + 1, l13 ++ [(⟨y19.fName, y19.fValues⟩ : GEnumeration)], v14 + 1, rfl, rfl, rfl, hE'19, hi'19, h⟩, (.t [0, 1, 2, 3, 4, 5] false)⟩
 obtain ⟨hz10, hw10, hx10, hE'10, hi'10⟩ := zW hE10 hi10 hb10;simp only [ye.l10] at h
 refine za fun Z31 hZ31 => ?_
 refine rg tok [1, 2, 3, 4, 17] fun K hK => ?_
 simp only [go_sem, qc, qa, qd, hz10];apply hK
 refine zp rfl ?_;apply zd;apply hZ31
 refine za fun Z32 hZ32 => ?_
 apply ze;have f33 := E22.idxS hx10;have f34 := E22.loadS rfl rfl hx10
 refine rg tok [1, 2, 3, 4, 5] fun K hK => ?_
 simp only [go_sem, qc, qf, qa, qd, encGMessage, f33, f34];apply hK
 have f35 := fun nl tt σ => xK E47.len y10.fFields nl tt σ
 obtain ⟨_u36, hu36, h⟩ := bind_some h;have gu36 := yd hu36;obtain ⟨r37, hr37, h⟩ := bind_some h;obtain ⟨_u38, hu38, h⟩ := bind_some h;have gu38 := yd hu38;have f39 := (zr E22.len l4)
 refine rdE [1, 2, 3, 4] fun K hK => ?_
 refine DW.start (T := tab) [.any, .own 3 [], .any, .own 2 [], .any, .at [], .eff, .any, .own 1 [], .eff, .any, .eff, .eff, .any, .eff] [(3, []), (2, []), (1, [])] ?_;refine DW.runN tok 8 ?_;simp only [go_sem, qc, qf, qa, qd, z6, zM, yg, true_and, encGSchema, f35, gu36, Zf, ud, qz, qj, ql, qm, qE];refine DW.runN tok 1 ?_;simp only [go_sem, qc, qa, qd, qj, ql, qm];refine DW.call rfl rfl rfl (wo.ev y10.fReserved r37 hr37 _) ?_;refine DW.runN tok 5 ?_;simp only [go_sem, qc, qf, qa, qd, qq, zH, zX, q2, qW, true_and, ub, z6, zM, yg, gu38, f39, q9, qY, AV.one, qU, qz, qj, ql, qm, qE, yv];refine DW.fin tok (by decide +kernel) rfl ?_;simp only [zo, upd, qa, reduceIte, yG, xr];apply hK
 apply hZ32
 refine rgE tok [1, 2, 3, 4] fun K hK => ?_
 simp only [go_sem, qc, qa, hw10];apply hK
 exact ⟨_, _, _, qr q10.length, ⟨p10 ++ [y10], q10, x6 + 1, l4 ++ [(⟨y10.fName, y10.fFields, r37⟩ : GMessage)], v5 + 1, rfl, rfl, rfl, hE'10, hi'10, h⟩, (.t [0, 1, 2, 3, 4, 5] false)⟩
theorem ye.ev (a0 : GSchema) (r : GSchema) (h : ye a0 = some r) (σ : Store) : ACalls qh 17 [.agg (encGSchema a0)] σ (fun r' σ' => r' = .agg (encGSchema r) ∧ σ' = σ) :=
 (ye.ok a0 r h).c σ
def wU (a0 : List UInt8) (a1 : Int) : Option Int :=
 (if (qb a0 : Int) ≤ a1 then some true else (wV a0 a1).bind fun b2 => some (decide ((b2.toNat : Int) < 128))).bind fun c2 => (if c2 = true then some true else (wV a0 a1).bind fun b7 => some (decide (191 < (b7.toNat : Int)))).bind fun c7 => (if c7 = true then some (-1) else (wV a0 a1).bind fun b11 => some (IntKind.i64.wrap ((IntKind.i64.wrap (b11.toNat : Int)) - 128)))
theorem wU.ok (a0 : List UInt8) (a1 : Int) (r : Int) (h : wU a0 a1 = some r) : ACalls qh 146 [.str a0, .int .i64 a1] [] (fun r' _ => r' = .int .i64 r) := by
 refine zf (rs := [.tmp 4]) tok Tryz.func146 rfl Tryz.ntmps146 rfl Tryz.call146 (by simp) ?_;refine zl [(0, .str a0), (1, .int .i64 a1)] ⟨rfl, rfl, trivial⟩ ?_;unfold wU at h;refine rgN [0, 1] ?_
 refine za fun Z1 hZ1 => ?_
 refine rc [0, 1, 20] fun K hK => ?_
 refine rnN 5 ?_;obtain ⟨c2, hc2, h⟩ := bind_some h;refine zh 5 (fun L τ => L = [(0, .str a0), (1, .int .i64 a1), (14, .bool c2)] ∧ τ = []) ?_ ?_
 · refine yA 9 rfl (fun hg9 => ?_) (fun hg9 => ?_)
   · have t3 := eq_true hg9;rw [if_pos hg9] at hc2;refine rnN 5 ?_;cases hc2;refine zb ⟨rfl, _, _, ⟨rfl, rfl⟩, .p t3⟩
   have t4 := eq_false hg9;rw [if_neg hg9] at hc2;obtain ⟨b5, hb5, hc2⟩ := bind_some hc2;have f6 := idx_str (T := tab) (t := 9) rfl rfl hb5;refine zj tok 5 ?_;simp only [go_sem, qc, qa, reduceCtorEq, f6];cases hc2;refine zb ⟨rfl, _, _, ⟨rfl, rfl⟩, .p t4⟩
 rintro _ _ ⟨rfl, rfl⟩;refine rnN 1 ?_;obtain ⟨c7, hc7, h⟩ := bind_some h;refine zh 5 (fun L τ => L = [(0, .str a0), (1, .int .i64 a1), (20, .bool c7)] ∧ τ = []) ?_ ?_
 · refine zI (b := c2) 15 rfl (fun hg15 => ?_) (fun hg15 => ?_)
   · rw [if_pos hg15] at hc7;refine rnN 5 ?_;cases hc7;refine zb ⟨rfl, _, _, ⟨rfl, rfl⟩, .b hg15⟩
   rw [xN hg15] at hc7;obtain ⟨b8, hb8, hc7⟩ := bind_some hc7;have f9 := idx_str (T := tab) (t := 9) rfl rfl hb8;refine zj tok 5 ?_;simp only [go_sem, qc, qa, reduceCtorEq, f9];cases hc7;refine zb ⟨rfl, _, _, ⟨rfl, rfl⟩, .b hg15⟩
 rintro _ _ ⟨rfl, rfl⟩;refine nkN hK ?_;refine zn (b := c7) rfl (fun hc10 => ?_) (fun hc10 => ?_)
 · rw [if_pos hc10] at h;refine rgN [4] ?_;cases h;exact rtA
 rw [xN hc10] at h;apply zd;apply hZ1;obtain ⟨b11, hb11, h⟩ := bind_some h;have f12 := idx_str (T := tab) (t := 9) rfl rfl hb11;have f13 := xw (T := tab) (src := 5) (dst := 3) rfl rfl rfl
 refine rg tok [4] fun K hK => ?_
 simp only [go_sem, qc, qa, reduceCtorEq, f12, f13];apply hK
 cases h;exact rtA
theorem wU.ev (a0 : List UInt8) (a1 : Int) (r : Int) (h : wU a0 a1 = some r) (σ : Store) : ACalls qh 146 [.str a0, .int .i64 a1] σ (fun r' σ' => r' = .int .i64 r ∧ σ' = σ) :=
 (wU.ok a0 a1 r h).c σ
def yw.l17 (a0 : List UInt8) (a1 : Int) (x8 : Int) (x10 : Int) : Nat → Int → Int → Option (Int × Int × Bool)
 | 0, _, _ => none
 | k17 + 1, x13, x14 => (if x14 < x8 then (wU a0 (IntKind.i64.wrap (a1 + x14))).bind fun r22 => (if r22 < 0 then some (0, 0, false) else ((yw.l17 a0 a1 x8 x10 k17) (IntKind.i64.wrap ((IntKind.i64.wrap (64 * x13)) + r22)) (IntKind.i64.wrap (x14 + 1)))) else (if (((decide (x13 < x10)) || (decide (1114111 < x13))) || ((decide (55296 ≤ x13)) && (decide (x13 ≤ 57343)))) = true then some (0, 0, false) else some (IntKind.i32.wrap x13, x8, true)))
def yw.j11 (a0 : List UInt8) (a1 : Int) (x8 : Int) (x9 : Int) (x10 : Int) : Option (Int × Int × Bool) :=
 (yw.l17 a0 a1 x8 x10 rounds x9 1)
def yw (a0 : List UInt8) (a1 : Int) : Option (Int × Int × Bool) :=
 (if ((decide (a1 < 0)) || (decide ((qb a0 : Int) ≤ a1))) = true then some (0, 0, false) else (wV a0 a1).bind fun b5 => (if IntKind.i64.wrap (b5.toNat : Int) < 128 then some (IntKind.i32.wrap (IntKind.i64.wrap (b5.toNat : Int)), 1, true) else (if ((decide (192 ≤ IntKind.i64.wrap (b5.toNat : Int))) && (decide (IntKind.i64.wrap (b5.toNat : Int) < 224))) = true then (yw.j11 a0 a1 2 (IntKind.i64.wrap ((IntKind.i64.wrap (b5.toNat : Int)) - 192)) 128) else (if ((decide (224 ≤ IntKind.i64.wrap (b5.toNat : Int))) && (decide (IntKind.i64.wrap (b5.toNat : Int) < 240))) = true then (yw.j11 a0 a1 3 (IntKind.i64.wrap ((IntKind.i64.wrap (b5.toNat : Int)) - 224)) 2048) else (if ((decide (240 ≤ IntKind.i64.wrap (b5.toNat : Int))) && (decide (IntKind.i64.wrap (b5.toNat : Int) < 248))) = true then (yw.j11 a0 a1 4 (IntKind.i64.wrap ((IntKind.i64.wrap (b5.toNat : Int)) - 240)) 65536) else some (0, 0, false))))))
theorem yw.ok (a0 : List UInt8) (a1 : Int) (r : Int × Int × Bool) (h : yw a0 a1 = some r) : ACalls qh 120 [.str a0, .int .i64 a1] [] (fun r' _ => r' = .tup [.int .i32 r.1, .int .i64 r.2.1, .bool r.2.2]) := by
 refine zf (rs := [.tmp 4, .tmp 5, .tmp 6]) tok Tryz.func120 rfl Tryz.ntmps120 rfl Tryz.call120 (by simp) ?_;refine zl [(0, .str a0), (1, .int .i64 a1)] ⟨rfl, rfl, trivial⟩ ?_;unfold yw at h;refine rgN [0, 1] ?_
 refine za fun Z1 hZ1 => ?_
 refine rc [0, 1, 20] fun K hK => ?_
 refine rnN 3 ?_;refine zh 5 (fun L τ => L = [(0, .str a0), (1, .int .i64 a1), (20, .bool ((decide (a1 < 0)) || (decide ((qb a0 : Int) ≤ a1))))] ∧ τ = []) ?_ ?_
 · refine yA 15 rfl (fun hg15 => ?_) (fun hg15 => ?_)
   · have t2 := eq_true hg15;refine rnN 5 ?_;refine zb ⟨rfl, _, _, ⟨rfl, rfl⟩, .p t2⟩
   have t3 := eq_false hg15;refine rnN 5 ?_;refine zb ⟨rfl, _, _, ⟨rfl, rfl⟩, .p t3⟩
 rintro _ _ ⟨rfl, rfl⟩;refine nkN hK ?_;refine zn (b := ((decide (a1 < 0)) || (decide ((qb a0 : Int) ≤ a1)))) rfl (fun hc4 => ?_) (fun hc4 => ?_)
 · rw [if_pos hc4] at h;refine rgN [4, 5, 6] ?_;cases h;exact rtA
 rw [xN hc4] at h;apply zd;apply hZ1;obtain ⟨b5, hb5, h⟩ := bind_some h;have f6 := idx_str (T := tab) (t := 9) rfl rfl hb5;have f7 := xw (T := tab) (src := 5) (dst := 3) rfl rfl rfl
 refine rg tok [0, 1, 7] fun K hK => ?_
 simp only [go_sem, qc, qa, reduceCtorEq, f6, f7];apply hK
 refine rgN [0, 1, 7] ?_;refine xy (fun L τ => ∃ (x8 : Int) (x9 : Int) (x10 : Int), L = [(0, .str a0), (1, .int .i64 a1), (8, .int .i64 x8), (9, .int .i64 x9), (10, .int .i64 x10)] ∧ τ = [] ∧ yw.j11 a0 a1 x8 x9 x10 = some r) ?_ ?_
 · apply ze;refine rgN [0, 1, 7, 26] ?_;refine zx rfl (fun hc35 => ?_) (fun hc35 => ?_)
   · rw [if_pos hc35] at h;have t36 := eq_true hc35;have f37 := xw (T := tab) (src := 3) (dst := 21) rfl rfl rfl
     refine rg tok [4, 5, 6] fun K hK => ?_
     simp only [go_sem, qc, qa, reduceCtorEq, t36, f37];apply hK
     cases h;exact rtA
   rw [if_neg hc35] at h;have t38 := eq_false hc35
   refine rc [0, 1, 7, 31] fun K hK => ?_
   refine zj tok 3 ?_;simp only [go_sem, qc, qa, reduceCtorEq, t38];refine zh 3 (fun L τ => L = [(0, .str a0), (1, .int .i64 a1), (7, .int .i64 (IntKind.i64.wrap (b5.toNat : Int))), (37, .bool ((decide (192 ≤ IntKind.i64.wrap (b5.toNat : Int))) && (decide (IntKind.i64.wrap (b5.toNat : Int) < 224))))] ∧ τ = []) ?_ ?_
   · refine yA 34 rfl (fun hg34 => ?_) (fun hg34 => ?_)
     · have t39 := eq_true hg34;refine rnN 3 ?_;refine zb ⟨rfl, _, _, ⟨rfl, rfl⟩, .p t39⟩
     have t40 := eq_false hg34;refine rnN 3 ?_;refine zb ⟨rfl, _, _, ⟨rfl, rfl⟩, .p t40⟩
   rintro _ _ ⟨rfl, rfl⟩;refine rnN 1 ?_;refine nkN hK ?_;refine zn (b := ((decide (192 ≤ IntKind.i64.wrap (b5.toNat : Int))) && (decide (IntKind.i64.wrap (b5.toNat : Int) < 224)))) rfl (fun hc41 => ?_) (fun hc41 => ?_)
   · rw [if_pos hc41] at h
     refine rgE tok [0, 1, 8, 9, 10] fun K hK => ?_
     simp only [go_sem, qc, qa, reduceCtorEq];apply hK
     exact ⟨_, _, ⟨2, IntKind.i64.wrap ((IntKind.i64.wrap (b5.toNat : Int)) - 192), 128, rfl, rfl, h⟩, .s⟩
   rw [xN hc41] at h
   refine rc [0, 1, 7, 40] fun K hK => ?_
   refine rnN 3 ?_;refine zh 3 (fun L τ => L = [(0, .str a0), (1, .int .i64 a1), (7, .int .i64 (IntKind.i64.wrap (b5.toNat : Int))), (46, .bool ((decide (224 ≤ IntKind.i64.wrap (b5.toNat : Int))) && (decide (IntKind.i64.wrap (b5.toNat : Int) < 240))))] ∧ τ = []) ?_ ?_
   · refine yA 43 rfl (fun hg43 => ?_) (fun hg43 => ?_)
     · have t42 := eq_true hg43;refine rnN 3 ?_;refine zb ⟨rfl, _, _, ⟨rfl, rfl⟩, .p t42⟩
     have t43 := eq_false hg43;refine rnN 3 ?_;refine zb ⟨rfl, _, _, ⟨rfl, rfl⟩, .p t43⟩
   rintro _ _ ⟨rfl, rfl⟩;refine rnN 1 ?_;refine nkN hK ?_;refine zn (b := ((decide (224 ≤ IntKind.i64.wrap (b5.toNat : Int))) && (decide (IntKind.i64.wrap (b5.toNat : Int) < 240)))) rfl (fun hc44 => ?_) (fun hc44 => ?_)
   · rw [if_pos hc44] at h
     refine rgE tok [0, 1, 8, 9, 10] fun K hK => ?_
     simp only [go_sem, qc, qa, reduceCtorEq];apply hK
     exact ⟨_, _, ⟨3, IntKind.i64.wrap ((IntKind.i64.wrap (b5.toNat : Int)) - 224), 2048, rfl, rfl, h⟩, .s⟩
   rw [xN hc44] at h
   refine rc [0, 1, 7, 49] fun K hK => ?_
   refine rnN 3 ?_;refine zh 3 (fun L τ => L = [(0, .str a0), (1, .int .i64 a1), (7, .int .i64 (IntKind.i64.wrap (b5.toNat : Int))), (55, .bool ((decide (240 ≤ IntKind.i64.wrap (b5.toNat : Int))) && (decide (IntKind.i64.wrap (b5.toNat : Int) < 248))))] ∧ τ = []) ?_ ?_
   · refine yA 52 rfl (fun hg52 => ?_) (fun hg52 => ?_)
     · have t45 := eq_true hg52;refine rnN 3 ?_;refine zb ⟨rfl, _, _, ⟨rfl, rfl⟩, .p t45⟩
     have t46 := eq_false hg52;refine rnN 3 ?_;refine zb ⟨rfl, _, _, ⟨rfl, rfl⟩, .p t46⟩
   rintro _ _ ⟨rfl, rfl⟩;refine rnN 1 ?_;refine nkN hK ?_;refine zn (b := ((decide (240 ≤ IntKind.i64.wrap (b5.toNat : Int))) && (decide (IntKind.i64.wrap (b5.toNat : Int) < 248)))) rfl (fun hc47 => ?_) (fun hc47 => ?_)
   · rw [if_pos hc47] at h
     refine rgE tok [0, 1, 8, 9, 10] fun K hK => ?_
     simp only [go_sem, qc, qa, reduceCtorEq];apply hK
     exact ⟨_, _, ⟨4, IntKind.i64.wrap ((IntKind.i64.wrap (b5.toNat : Int)) - 240), 65536, rfl, rfl, h⟩, .s⟩
   rw [xN hc47] at h;refine rgN [4, 5, 6] ?_;cases h;exact rtA
 rintro _ _ ⟨x8, x9, x10, rfl, rfl, h⟩;unfold yw.j11 at h
 refine za fun Z12 hZ12 => ?_
 refine rgN [0, 1, 8, 9, 10, 11] ?_;apply ze;refine zq (fun m L τ => ∃ (k17 : Nat) (x13 : Int) (x14 : Int), m = 0 + k17 ∧ L = [(0, .str a0), (1, .int .i64 a1), (8, .int .i64 x8), (9, .int .i64 x13), (10, .int .i64 x10), (11, .int .i64 x14)] ∧ τ = [] ∧ yw.l17 a0 a1 x8 x10 k17 x13 x14 = some r) _ ⟨rounds, x9, 1, rfl, rfl, rfl, h⟩ .s ?_;rintro m L τ ⟨k17, x13, x14, rfl, rfl, rfl, h⟩
 rcases k17 with _ | k17
 · cases h
 simp only [yw.l17] at h
 refine za fun Z18 hZ18 => ?_
 refine rgN [0, 1, 8, 9, 10, 11, 60] ?_;refine zx rfl (fun hc19 => ?_) (fun hc19 => ?_)
 · rw [if_pos hc19] at h;have t20 := eq_true hc19;apply zd;apply hZ18
   refine za fun Z21 hZ21 => ?_
   apply ze
   refine rc [0, 1, 8, 9, 10, 11, 12] fun K hK => ?_
   obtain ⟨r22, hr22, h⟩ := bind_some h;refine zj tok 4 ?_;simp only [go_sem, qc, qa, reduceCtorEq, t20];refine clN rfl rfl rfl (wU.ev a0 (IntKind.i64.wrap (a1 + x14)) r22 hr22 _) ?_;refine rnN 1 ?_;refine nkN hK ?_
   refine za fun Z23 hZ23 => ?_
   refine rgN [0, 1, 8, 9, 10, 11, 12, 69] ?_;refine zx rfl (fun hc24 => ?_) (fun hc24 => ?_)
   · rw [if_pos hc24] at h;have t25 := eq_true hc24
     refine rg tok [4, 5, 6] fun K hK => ?_
     simp only [go_sem, qc, qa, reduceCtorEq, t25];apply hK
     cases h;exact rtA
   rw [if_neg hc24] at h;have t26 := eq_false hc24;apply zd;apply hZ23
   refine rgE tok [0, 1, 8, 9, 10, 11] fun K hK => ?_
   simp only [go_sem, qc, qa, reduceCtorEq, t26];apply hK
   apply hZ21
   refine rgE tok [0, 1, 8, 9, 10, 11] fun K hK => ?_
   simp only [go_sem, qc, qa, reduceCtorEq];apply hK
   exact ⟨_, _, _, qr (0 + k17), ⟨k17, IntKind.i64.wrap ((IntKind.i64.wrap (64 * x13)) + r22), IntKind.i64.wrap (x14 + 1), rfl, rfl, rfl, h⟩, .s⟩
 rw [if_neg hc19] at h;have t27 := eq_false hc19;apply zv;apply hZ12
 refine za fun Z28 hZ28 => ?_
 refine rc [8, 9, 88] fun K hK => ?_
 refine zj tok 4 ?_;simp only [go_sem, qc, qa, reduceCtorEq, t27];refine zh 3 (fun L τ => L = [(8, .int .i64 x8), (9, .int .i64 x13), (80, .bool ((decide (x13 < x10)) || (decide (1114111 < x13))))] ∧ τ = []) ?_ ?_
 · refine yA 77 rfl (fun hg77 => ?_) (fun hg77 => ?_)
   · have t29 := eq_true hg77;refine rnN 3 ?_;refine zb ⟨rfl, _, _, ⟨rfl, rfl⟩, .p t29⟩
   have t30 := eq_false hg77;refine rnN 3 ?_;refine zb ⟨rfl, _, _, ⟨rfl, rfl⟩, .p t30⟩
 rintro _ _ ⟨rfl, rfl⟩;refine rnN 1 ?_;refine zh 7 (fun L τ => L = [(8, .int .i64 x8), (9, .int .i64 x13), (88, .bool (((decide (x13 < x10)) || (decide (1114111 < x13))) || ((decide (55296 ≤ x13)) && (decide (x13 ≤ 57343)))))] ∧ τ = []) ?_ ?_
 · refine zI (b := ((decide (x13 < x10)) || (decide (1114111 < x13)))) 81 rfl (fun hg81 => ?_) (fun hg81 => ?_)
   · refine rnN 7 ?_;refine zb ⟨rfl, _, _, ⟨rfl, rfl⟩, .b hg81⟩
   refine rnN 3 ?_;refine zh 3 (fun L τ => L = [(8, .int .i64 x8), (9, .int .i64 x13), (81, .bool false), (87, .bool ((decide (55296 ≤ x13)) && (decide (x13 ≤ 57343))))] ∧ τ = []) ?_ ?_
   · refine yA 84 rfl (fun hg84 => ?_) (fun hg84 => ?_)
     · have t31 := eq_true hg84;refine rnN 3 ?_;refine zb ⟨rfl, _, _, ⟨rfl, rfl⟩, .p t31⟩
     have t32 := eq_false hg84;refine rnN 3 ?_;refine zb ⟨rfl, _, _, ⟨rfl, rfl⟩, .p t32⟩
   rintro _ _ ⟨rfl, rfl⟩;refine rnN 1 ?_;refine zb ⟨rfl, _, _, ⟨rfl, rfl⟩, .b hg81⟩
 rintro _ _ ⟨rfl, rfl⟩;refine nkN hK ?_;refine zn (b := (((decide (x13 < x10)) || (decide (1114111 < x13))) || ((decide (55296 ≤ x13)) && (decide (x13 ≤ 57343))))) rfl (fun hc33 => ?_) (fun hc33 => ?_)
 · rw [if_pos hc33] at h;refine rgN [4, 5, 6] ?_;cases h;exact rtA
 rw [xN hc33] at h;apply zd;apply hZ28;have f34 := xw (T := tab) (src := 3) (dst := 21) rfl rfl rfl
 refine rg tok [4, 5, 6] fun K hK => ?_
 simp only [go_sem, qc, qa, f34];apply hK
 cases h;exact rtA
theorem yw.ev (a0 : List UInt8) (a1 : Int) (r : Int × Int × Bool) (h : yw a0 a1 = some r) (σ : Store) : ACalls qh 120 [.str a0, .int .i64 a1] σ (fun r' σ' => r' = .tup [.int .i32 r.1, .int .i64 r.2.1, .bool r.2.2] ∧ σ' = σ) :=
 (yw.ok a0 a1 r h).c σ
def xY.l8 (a0 : List UInt8) : Nat → List Int → Int → Option (List Int × Bool)
 | 0, _, _ => none
 | k8 + 1, l2, x4 => (if x4 < (qb a0 : Int) then (yw a0 x4).bind fun r12 => (if (!r12.2.2) = true then some (([] : List Int), false) else (ZZ (qb l2 + 1) 4).bind fun _u15 => ((xY.l8 a0 k8) (l2 ++ [r12.1]) (IntKind.i64.wrap (x4 + r12.2.1)))) else some (l2, true))
def xY (a0 : List UInt8) : Option (List Int × Bool) :=
 (xY.l8 a0 rounds ([] : List Int) 0)
theorem xY.ok (a0 : List UInt8) (r : List Int × Bool) (h : xY a0 = some r) : ACalls qh 78 [.str a0] [] (fun r' _ => r' = .tup [.ds true (qe (va6 .i32) r.1) (qb r.1) false, .bool r.2]) := by
 refine zf (rs := [.tmp 2, .tmp 3]) tok Tryz.func78 rfl Tryz.ntmps78 rfl Tryz.call78 (by simp) ?_;refine zl [(0, .str a0)] ⟨rfl, trivial⟩ ?_;unfold xY at h;refine rgN [0] ?_;refine rgN [0, 4] ?_;refine wC 4 1 rfl ?_;refine zU (L := [(0, .str a0), (4, .os true 1 0 0 0 (qb ([] : List Int)) false)]) (τ := [.cells 0 (qe (va6 .i32) ([] : List Int))]) .s ?_
 refine za fun Z1 hZ1 => ?_
 refine rgN [0, 4, 5] ?_;apply ze;refine zq (fun m L τ => ∃ (k8 : Nat) (l2 : List Int) (x4 : Int) (v3 : Nat), m = 0 + k8 ∧ L = [(0, .str a0), (4, .os true 1 0 v3 0 (qb l2) false), (5, .int .i64 x4)] ∧ τ = [.cells v3 (qe (va6 .i32) l2)] ∧ xY.l8 a0 k8 l2 x4 = some r) _ ⟨rounds, ([] : List Int), 0, 0, rfl, rfl, rfl, h⟩ .s ?_;rintro m L τ ⟨k8, l2, x4, v3, rfl, rfl, rfl, h⟩
 rcases k8 with _ | k8
 · cases h
 simp only [xY.l8] at h
 refine za fun Z9 hZ9 => ?_
 refine rgN [0, 4, 5, 12] ?_;refine zx rfl (fun hc10 => ?_) (fun hc10 => ?_)
 · rw [if_pos hc10] at h;have t11 := eq_true hc10;apply zd;apply hZ9;apply ze
   refine rc [0, 4, 5, 6, 7, 8] fun K hK => ?_
   obtain ⟨r12, hr12, h⟩ := bind_some h;refine zj tok 2 ?_;simp only [go_sem, qc, qa, reduceCtorEq, t11];refine clN rfl rfl rfl (yw.ev a0 x4 r12 hr12 _) ?_;refine rnN 7 ?_;refine nkN hK ?_
   refine za fun Z13 hZ13 => ?_
   refine rgN [0, 4, 5, 6, 7, 21] ?_;refine zn (b := (!r12.2.2)) rfl (fun hc14 => ?_) (fun hc14 => ?_)
   · rw [if_pos hc14] at h;refine rgN [2, 3] ?_;cases h;exact rtA
   rw [xN hc14] at h;apply zd;apply hZ13;obtain ⟨_u15, hu15, h⟩ := bind_some h;have gu15 := yd hu15;have f16 := (zr E130.len l2)
   refine rg tok [0, 4, 5, 7] fun K hK => ?_
   simp only [go_sem, qc, qf, qa, qq, reduceCtorEq, zH, zX, q2, qW, true_and, ub, z6, zM, yg, gu15, f16, yv, q9, qY, AV.one, qU, qz, qj, ql, qm, qE];apply hK
   refine zU (L := [(0, .str a0), (4, .os true 1 0 (v3 + 1) 0 (qb (l2 ++ [r12.1])) false), (5, .int .i64 x4), (7, .int .i64 r12.2.1)]) (τ := [.cells (v3 + 1) (qe (va6 .i32) (l2 ++ [r12.1])), .cells 0 [.int .i32 r12.1]]) .s ?_
   refine rgE tok [0, 4, 5] fun K hK => ?_
   simp only [go_sem, qc, qa, reduceCtorEq];apply hK
   exact ⟨_, _, _, qr (0 + k8), ⟨k8, l2 ++ [r12.1], IntKind.i64.wrap (x4 + r12.2.1), v3 + 1, rfl, rfl, rfl, h⟩, (.t [0] false)⟩
 rw [if_neg hc10] at h;have t17 := eq_false hc10;apply zv;apply hZ1
 refine rg tok [2, 3] fun K hK => ?_
 simp only [go_sem, qc, qa, reduceCtorEq, t17];apply hK
 cases h;exact rtA
theorem xY.ev (a0 : List UInt8) (r : List Int × Bool) (h : xY a0 = some r) (σ : Store) : ACalls qh 78 [.str a0] σ (fun r' σ' => r' = .tup [.ds true (qe (va6 .i32) r.1) (qb r.1) false, .bool r.2] ∧ σ' = σ) :=
 (xY.ok a0 r h).c σ
def xn (a0 : Int) : Bool :=
 ((((((decide (97 ≤ a0)) && (decide (a0 ≤ 122))) || ((decide (65 ≤ a0)) && (decide (a0 ≤ 90)))) || (decide (a0 = 95))) || ((((decide (192 ≤ a0)) && (decide (a0 ≤ 591))) && (!(decide (a0 = 215)))) && (!(decide (a0 = 247))))) || (((decide (913 ≤ a0)) && (decide (a0 ≤ 969))) && (!(decide (a0 = 930)))))
theorem xn.ok (a0 : Int) (r : Bool) (h : xn a0 = r) : ACalls qh 79 [.int .i32 a0] [] (fun r' _ => r' = .bool r) := by
 refine zf (rs := [.tmp 2]) tok Tryz.func79 rfl Tryz.ntmps79 rfl Tryz.call79 (by simp) ?_;refine zl [(0, .int .i32 a0)] ⟨rfl, trivial⟩ ?_;unfold xn at h;refine rgN [0] ?_
 refine rc [2] fun K hK => ?_
 refine rnN 3 ?_;refine zh 3 (fun L τ => L = [(0, .int .i32 a0), (8, .bool ((decide (97 ≤ a0)) && (decide (a0 ≤ 122))))] ∧ τ = []) ?_ ?_
 · refine yA 5 rfl (fun hg5 => ?_) (fun hg5 => ?_)
   · have t1 := eq_true hg5;refine rnN 3 ?_;refine zb ⟨rfl, _, _, ⟨rfl, rfl⟩, .p t1⟩
   have t2 := eq_false hg5;refine rnN 3 ?_;refine zb ⟨rfl, _, _, ⟨rfl, rfl⟩, .p t2⟩
 rintro _ _ ⟨rfl, rfl⟩;refine rnN 1 ?_;refine zh 7 (fun L τ => L = [(0, .int .i32 a0), (16, .bool (((decide (97 ≤ a0)) && (decide (a0 ≤ 122))) || ((decide (65 ≤ a0)) && (decide (a0 ≤ 90)))))] ∧ τ = []) ?_ ?_
 · refine zI (b := ((decide (97 ≤ a0)) && (decide (a0 ≤ 122)))) 9 rfl (fun hg9 => ?_) (fun hg9 => ?_)
   · refine rnN 7 ?_;refine zb ⟨rfl, _, _, ⟨rfl, rfl⟩, .b hg9⟩
   refine rnN 3 ?_;refine zh 3 (fun L τ => L = [(0, .int .i32 a0), (9, .bool false), (15, .bool ((decide (65 ≤ a0)) && (decide (a0 ≤ 90))))] ∧ τ = []) ?_ ?_
   · refine yA 12 rfl (fun hg12 => ?_) (fun hg12 => ?_)
     · have t3 := eq_true hg12;refine rnN 3 ?_;refine zb ⟨rfl, _, _, ⟨rfl, rfl⟩, .p t3⟩
     have t4 := eq_false hg12;refine rnN 3 ?_;refine zb ⟨rfl, _, _, ⟨rfl, rfl⟩, .p t4⟩
   rintro _ _ ⟨rfl, rfl⟩;refine rnN 1 ?_;refine zb ⟨rfl, _, _, ⟨rfl, rfl⟩, .b hg9⟩
 rintro _ _ ⟨rfl, rfl⟩;refine rnN 1 ?_;refine zh 3 (fun L τ => L = [(0, .int .i32 a0), (20, .bool ((((decide (97 ≤ a0)) && (decide (a0 ≤ 122))) || ((decide (65 ≤ a0)) && (decide (a0 ≤ 90)))) || (decide (a0 = 95))))] ∧ τ = []) ?_ ?_
 · refine zI (b := (((decide (97 ≤ a0)) && (decide (a0 ≤ 122))) || ((decide (65 ≤ a0)) && (decide (a0 ≤ 90))))) 17 rfl (fun hg17 => ?_) (fun hg17 => ?_)
   · refine rnN 3 ?_;refine zb ⟨rfl, _, _, ⟨rfl, rfl⟩, .b hg17⟩
   refine rnN 3 ?_;refine zb ⟨rfl, _, _, ⟨rfl, rfl⟩, .b hg17⟩
 rintro _ _ ⟨rfl, rfl⟩;refine rnN 1 ?_;refine zh 15 (fun L τ => L = [(0, .int .i32 a0), (36, .bool (((((decide (97 ≤ a0)) && (decide (a0 ≤ 122))) || ((decide (65 ≤ a0)) && (decide (a0 ≤ 90)))) || (decide (a0 = 95))) || ((((decide (192 ≤ a0)) && (decide (a0 ≤ 591))) && (!(decide (a0 = 215)))) && (!(decide (a0 = 247))))))] ∧ τ = []) ?_ ?_
 · refine zI (b := ((((decide (97 ≤ a0)) && (decide (a0 ≤ 122))) || ((decide (65 ≤ a0)) && (decide (a0 ≤ 90)))) || (decide (a0 = 95)))) 21 rfl (fun hg21 => ?_) (fun hg21 => ?_)
   · refine rnN 10 ?_;refine rnN 5 ?_;refine zb ⟨rfl, _, _, ⟨rfl, rfl⟩, .b hg21⟩
   refine rnN 3 ?_;refine zh 3 (fun L τ => L = [(0, .int .i32 a0), (21, .bool false), (27, .bool ((decide (192 ≤ a0)) && (decide (a0 ≤ 591))))] ∧ τ = []) ?_ ?_
   · refine yA 24 rfl (fun hg24 => ?_) (fun hg24 => ?_)
     · have t5 := eq_true hg24;refine rnN 3 ?_;refine zb ⟨rfl, _, _, ⟨rfl, rfl⟩, .p t5⟩
     have t6 := eq_false hg24;refine rnN 3 ?_;refine zb ⟨rfl, _, _, ⟨rfl, rfl⟩, .p t6⟩
   rintro _ _ ⟨rfl, rfl⟩;refine rnN 1 ?_;refine zh 3 (fun L τ => L = [(0, .int .i32 a0), (21, .bool false), (31, .bool (((decide (192 ≤ a0)) && (decide (a0 ≤ 591))) && (!(decide (a0 = 215)))))] ∧ τ = []) ?_ ?_
   · refine zI (b := ((decide (192 ≤ a0)) && (decide (a0 ≤ 591)))) 28 rfl (fun hg28 => ?_) (fun hg28 => ?_)
     · refine rnN 3 ?_;refine zb ⟨rfl, _, _, ⟨rfl, rfl⟩, .b hg28⟩
     refine rnN 3 ?_;refine zb ⟨rfl, _, _, ⟨rfl, rfl⟩, .b hg28⟩
   rintro _ _ ⟨rfl, rfl⟩;refine rnN 1 ?_;refine zh 3 (fun L τ => L = [(0, .int .i32 a0), (21, .bool false), (35, .bool ((((decide (192 ≤ a0)) && (decide (a0 ≤ 591))) && (!(decide (a0 = 215)))) && (!(decide (a0 = 247)))))] ∧ τ = []) ?_ ?_
   · refine zI (b := (((decide (192 ≤ a0)) && (decide (a0 ≤ 591))) && (!(decide (a0 = 215))))) 32 rfl (fun hg32 => ?_) (fun hg32 => ?_)
     · refine rnN 3 ?_;refine zb ⟨rfl, _, _, ⟨rfl, rfl⟩, .b hg32⟩
     refine rnN 3 ?_;refine zb ⟨rfl, _, _, ⟨rfl, rfl⟩, .b hg32⟩
   rintro _ _ ⟨rfl, rfl⟩;refine rnN 1 ?_;refine zb ⟨rfl, _, _, ⟨rfl, rfl⟩, .b hg21⟩
 rintro _ _ ⟨rfl, rfl⟩;refine rnN 1 ?_;refine zh 11 (fun L τ => L = [(48, .bool ((((((decide (97 ≤ a0)) && (decide (a0 ≤ 122))) || ((decide (65 ≤ a0)) && (decide (a0 ≤ 90)))) || (decide (a0 = 95))) || ((((decide (192 ≤ a0)) && (decide (a0 ≤ 591))) && (!(decide (a0 = 215)))) && (!(decide (a0 = 247))))) || (((decide (913 ≤ a0)) && (decide (a0 ≤ 969))) && (!(decide (a0 = 930))))))] ∧ τ = []) ?_ ?_
 · refine zI (b := (((((decide (97 ≤ a0)) && (decide (a0 ≤ 122))) || ((decide (65 ≤ a0)) && (decide (a0 ≤ 90)))) || (decide (a0 = 95))) || ((((decide (192 ≤ a0)) && (decide (a0 ≤ 591))) && (!(decide (a0 = 215)))) && (!(decide (a0 = 247)))))) 37 rfl (fun hg37 => ?_) (fun hg37 => ?_)
   · refine rnN 10 ?_;refine rnN 1 ?_;refine zb ⟨rfl, _, _, ⟨rfl, rfl⟩, .b hg37⟩
   refine rnN 3 ?_;refine zh 3 (fun L τ => L = [(0, .int .i32 a0), (37, .bool false), (43, .bool ((decide (913 ≤ a0)) && (decide (a0 ≤ 969))))] ∧ τ = []) ?_ ?_
   · refine yA 40 rfl (fun hg40 => ?_) (fun hg40 => ?_)
     · have t7 := eq_true hg40;refine rnN 3 ?_;refine zb ⟨rfl, _, _, ⟨rfl, rfl⟩, .p t7⟩
     have t8 := eq_false hg40;refine rnN 3 ?_;refine zb ⟨rfl, _, _, ⟨rfl, rfl⟩, .p t8⟩
   rintro _ _ ⟨rfl, rfl⟩;refine rnN 1 ?_;refine zh 3 (fun L τ => L = [(37, .bool false), (47, .bool (((decide (913 ≤ a0)) && (decide (a0 ≤ 969))) && (!(decide (a0 = 930)))))] ∧ τ = []) ?_ ?_
   · refine zI (b := ((decide (913 ≤ a0)) && (decide (a0 ≤ 969)))) 44 rfl (fun hg44 => ?_) (fun hg44 => ?_)
     · refine rnN 3 ?_;refine zb ⟨rfl, _, _, ⟨rfl, rfl⟩, .b hg44⟩
     refine rnN 3 ?_;refine zb ⟨rfl, _, _, ⟨rfl, rfl⟩, .b hg44⟩
   rintro _ _ ⟨rfl, rfl⟩;refine rnN 1 ?_;refine zb ⟨rfl, _, _, ⟨rfl, rfl⟩, .b hg37⟩
 rintro _ _ ⟨rfl, rfl⟩;refine rnN 1 ?_;refine nkN hK ?_;cases h;exact rtA
theorem xn.ev (a0 : Int) (r : Bool) (h : xn a0 = r) (σ : Store) : ACalls qh 79 [.int .i32 a0] σ (fun r' σ' => r' = .bool r ∧ σ' = σ) :=
 (xn.ok a0 r h).c σ
def xe.j3 (x2 : Bool) : Bool :=
 (if x2 = true then true else false)
def xe (a0 : List UInt8) : Bool :=
 (if a0 = [115, 99, 104, 101, 109, 97] then (xe.j3 (decide (a0 = [115, 99, 104, 101, 109, 97]))) else (if a0 = [109, 101, 115, 115, 97, 103, 101] then (xe.j3 (decide (a0 = [109, 101, 115, 115, 97, 103, 101]))) else (if a0 = [101, 110, 117, 109] then (xe.j3 (decide (a0 = [101, 110, 117, 109]))) else (if a0 = [99, 97, 108, 108] then (xe.j3 (decide (a0 = [99, 97, 108, 108]))) else (if a0 = [114, 101, 116, 117, 114, 110, 115] then (xe.j3 (decide (a0 = [114, 101, 116, 117, 114, 110, 115]))) else (if a0 = [114, 101, 115, 101, 114, 118, 101, 100] then (xe.j3 (decide (a0 = [114, 101, 115, 101, 114, 118, 101, 100]))) else (if a0 = [111, 112, 116, 105, 111, 110, 97, 108] then (xe.j3 (decide (a0 = [111, 112, 116, 105, 111, 110, 97, 108]))) else (if a0 = [114, 101, 112, 101, 97, 116, 101, 100] then (xe.j3 (decide (a0 = [114, 101, 112, 101, 97, 116, 101, 100]))) else (if a0 = [105, 110, 116, 51, 50] then (xe.j3 (decide (a0 = [105, 110, 116, 51, 50]))) else (if a0 = [105, 110, 116, 54, 52] then (xe.j3 (decide (a0 = [105, 110, 116, 54, 52]))) else (if a0 = [98, 111, 111, 108] then (xe.j3 (decide (a0 = [98, 111, 111, 108]))) else (if a0 = [116, 101, 120, 116] then (xe.j3 (decide (a0 = [116, 101, 120, 116]))) else (xe.j3 (decide (a0 = [98, 121, 116, 101, 115])))))))))))))))
theorem xe.ok (a0 : List UInt8) (r : Bool) (h : xe a0 = r) : ACalls qh 80 [.str a0] [] (fun r' _ => r' = .bool r) := by
 refine zf (rs := [.tmp 2]) tok Tryz.func80 rfl Tryz.ntmps80 rfl Tryz.call80 (by simp) ?_;refine zl [(0, .str a0)] ⟨rfl, trivial⟩ ?_;unfold xe at h;refine rgN [0] ?_
 refine za fun Z1 hZ1 => ?_
 refine rgN [3] ?_;apply ze;refine xy (fun L τ => ∃ (x2 : Bool), L = [(4, .bool x2)] ∧ τ = [] ∧ xe.j3 x2 = r) ?_ ?_
 · refine rgN [3, 4] ?_;refine zx rfl (fun hc5 => ?_) (fun hc5 => ?_)
   · rw [if_pos hc5] at h;have t6 := eq_true hc5;apply zd;exact ⟨_, _, ⟨decide (a0 = [115, 99, 104, 101, 109, 97]), rfl, rfl, h⟩, .s⟩
   rw [if_neg hc5] at h;have t7 := eq_false hc5
   refine rg tok [3, 4] fun K hK => ?_
   simp only [go_sem, qc, qa, t7];apply hK
   refine zx rfl (fun hc8 => ?_) (fun hc8 => ?_)
   · rw [if_pos hc8] at h;have t9 := eq_true hc8;apply zd;exact ⟨_, _, ⟨decide (a0 = [109, 101, 115, 115, 97, 103, 101]), rfl, rfl, h⟩, .s⟩
   rw [if_neg hc8] at h;have t10 := eq_false hc8
   refine rg tok [3, 4] fun K hK => ?_
   simp only [go_sem, qc, qa, t10];apply hK
   refine zx rfl (fun hc11 => ?_) (fun hc11 => ?_)
   · rw [if_pos hc11] at h;have t12 := eq_true hc11;apply zd;exact ⟨_, _, ⟨decide (a0 = [101, 110, 117, 109]), rfl, rfl, h⟩, .s⟩
   rw [if_neg hc11] at h;have t13 := eq_false hc11
   refine rg tok [3, 4] fun K hK => ?_
   simp only [go_sem, qc, qa, t13];apply hK
   refine zx rfl (fun hc14 => ?_) (fun hc14 => ?_)
   · rw [if_pos hc14] at h;have t15 := eq_true hc14;apply zd;exact ⟨_, _, ⟨decide (a0 = [99, 97, 108, 108]), rfl, rfl, h⟩, .s⟩
   rw [if_neg hc14] at h;have t16 := eq_false hc14
   refine rg tok [3, 4] fun K hK => ?_
   simp only [go_sem, qc, qa, t16];apply hK
   refine zx rfl (fun hc17 => ?_) (fun hc17 => ?_)
   · rw [if_pos hc17] at h;have t18 := eq_true hc17;apply zd;exact ⟨_, _, ⟨decide (a0 = [114, 101, 116, 117, 114, 110, 115]), rfl, rfl, h⟩, .s⟩
   rw [if_neg hc17] at h;have t19 := eq_false hc17
   refine rg tok [3, 4] fun K hK => ?_
   simp only [go_sem, qc, qa, t19];apply hK
   refine zx rfl (fun hc20 => ?_) (fun hc20 => ?_)
   · rw [if_pos hc20] at h;have t21 := eq_true hc20;apply zd;exact ⟨_, _, ⟨decide (a0 = [114, 101, 115, 101, 114, 118, 101, 100]), rfl, rfl, h⟩, .s⟩
   rw [if_neg hc20] at h;have t22 := eq_false hc20
   refine rg tok [3, 4] fun K hK => ?_
   simp only [go_sem, qc, qa, t22];apply hK
   refine zx rfl (fun hc23 => ?_) (fun hc23 => ?_)
   · rw [if_pos hc23] at h;have t24 := eq_true hc23;apply zd;exact ⟨_, _, ⟨decide (a0 = [111, 112, 116, 105, 111, 110, 97, 108]), rfl, rfl, h⟩, .s⟩
   rw [if_neg hc23] at h;have t25 := eq_false hc23
   refine rg tok [3, 4] fun K hK => ?_
   simp only [go_sem, qc, qa, t25];apply hK
   refine zx rfl (fun hc26 => ?_) (fun hc26 => ?_)
   · rw [if_pos hc26] at h;have t27 := eq_true hc26;apply zd;exact ⟨_, _, ⟨decide (a0 = [114, 101, 112, 101, 97, 116, 101, 100]), rfl, rfl, h⟩, .s⟩
   rw [if_neg hc26] at h;have t28 := eq_false hc26
   refine rg tok [3, 4] fun K hK => ?_
   simp only [go_sem, qc, qa, t28];apply hK
   refine zx rfl (fun hc29 => ?_) (fun hc29 => ?_)
   · rw [if_pos hc29] at h;have t30 := eq_true hc29;apply zd;exact ⟨_, _, ⟨decide (a0 = [105, 110, 116, 51, 50]), rfl, rfl, h⟩, .s⟩
   rw [if_neg hc29] at h;have t31 := eq_false hc29
   refine rg tok [3, 4] fun K hK => ?_
   simp only [go_sem, qc, qa, t31];apply hK
   refine zx rfl (fun hc32 => ?_) (fun hc32 => ?_)
   · rw [if_pos hc32] at h;have t33 := eq_true hc32;apply zd;exact ⟨_, _, ⟨decide (a0 = [105, 110, 116, 54, 52]), rfl, rfl, h⟩, .s⟩
   rw [if_neg hc32] at h;have t34 := eq_false hc32
   refine rg tok [3, 4] fun K hK => ?_
   simp only [go_sem, qc, qa, t34];apply hK
   refine zx rfl (fun hc35 => ?_) (fun hc35 => ?_)
   · rw [if_pos hc35] at h;have t36 := eq_true hc35;apply zd;exact ⟨_, _, ⟨decide (a0 = [98, 111, 111, 108]), rfl, rfl, h⟩, .s⟩
   rw [if_neg hc35] at h;have t37 := eq_false hc35
   refine rg tok [3, 4] fun K hK => ?_
   simp only [go_sem, qc, qa, t37];apply hK
   refine zx rfl (fun hc38 => ?_) (fun hc38 => ?_)
   · rw [if_pos hc38] at h;have t39 := eq_true hc38;apply zd;exact ⟨_, _, ⟨decide (a0 = [116, 101, 120, 116]), rfl, rfl, h⟩, .s⟩
   rw [if_neg hc38] at h;have t40 := eq_false hc38
   refine rgE tok [4] fun K hK => ?_
   simp only [go_sem, qc, qa, t40];apply hK
   exact ⟨_, _, ⟨decide (a0 = [98, 121, 116, 101, 115]), rfl, rfl, h⟩, .s⟩
 rintro _ _ ⟨x2, rfl, rfl, h⟩;unfold xe.j3 at h;refine zn (b := x2) rfl (fun hc4 => ?_) (fun hc4 => ?_)
 · rw [if_pos hc4] at h;refine rgN [2] ?_;cases h;exact rtA
 rw [xN hc4] at h;apply zd;apply hZ1;refine rgN [2] ?_;cases h;exact rtA
theorem xe.ev (a0 : List UInt8) (r : Bool) (h : xe a0 = r) (σ : Store) : ACalls qh 80 [.str a0] σ (fun r' σ' => r' = .bool r ∧ σ' = σ) :=
 (xe.ok a0 r h).c σ
def wb (a0 : Int) : Bool :=
 ((decide (48 ≤ a0)) && (decide (a0 ≤ 57)))
theorem wb.ok (a0 : Int) (r : Bool) (h : wb a0 = r) : ACalls qh 81 [.int .i32 a0] [] (fun r' _ => r' = .bool r) := by
 refine zf (rs := [.tmp 2]) tok Tryz.func81 rfl Tryz.ntmps81 rfl Tryz.call81 (by simp) ?_;refine zl [(0, .int .i32 a0)] ⟨rfl, trivial⟩ ?_;unfold wb at h;refine rgN [0] ?_
 refine rc [2] fun K hK => ?_
 refine rnN 3 ?_;refine zh 3 (fun L τ => L = [(8, .bool ((decide (48 ≤ a0)) && (decide (a0 ≤ 57))))] ∧ τ = []) ?_ ?_
 · refine yA 5 rfl (fun hg5 => ?_) (fun hg5 => ?_)
   · have t1 := eq_true hg5;refine rnN 3 ?_;refine zb ⟨rfl, _, _, ⟨rfl, rfl⟩, .p t1⟩
   have t2 := eq_false hg5;refine rnN 3 ?_;refine zb ⟨rfl, _, _, ⟨rfl, rfl⟩, .p t2⟩
 rintro _ _ ⟨rfl, rfl⟩;refine rnN 1 ?_;refine nkN hK ?_;cases h;exact rtA
theorem wb.ev (a0 : Int) (r : Bool) (h : wb a0 = r) (σ : Store) : ACalls qh 81 [.int .i32 a0] σ (fun r' σ' => r' = .bool r ∧ σ' = σ) :=
 (wb.ok a0 r h).c σ
def y0.l14 (r1 : List Int × Bool) : Nat → Int → Option Bool
 | 0, _ => none
 | k14 + 1, x12 => (if x12 < (qb r1.1 : Int) then (wV r1.1 x12).bind fun y19 => bnd (xn y19) fun r22 => bnd (if (!r22) = true then bnd (wb y19) fun r25 => !r25 else false) fun c23 => (if c23 = true then some false else ((y0.l14 r1 k14) (IntKind.i64.wrap (x12 + 1)))) else some true)
def y0 (a0 : List UInt8) : Option Bool :=
 (xY a0).bind fun r1 => (if (((!r1.2) || (decide ((qb r1.1 : Int) < 1))) || (decide (20 < (qb r1.1 : Int)))) = true then some true else (wV r1.1 0).bind fun y3 => bnd (xn y3) fun r6 => some (!r6)).bind fun c3 => bnd (if c3 = true then true else bnd (xe a0) fun r8 => r8) fun c8 => (if c8 = true then some false else (y0.l14 r1 rounds 1))
theorem y0.ok (a0 : List UInt8) (r : Bool) (h : y0 a0 = some r) : ACalls qh 45 [.str a0] [] (fun r' _ => r' = .bool r) := by
 refine zf (rs := [.tmp 2]) tok Tryz.func45 rfl Tryz.ntmps45 rfl Tryz.call45 (by simp) ?_;refine zl [(0, .str a0)] ⟨rfl, trivial⟩ ?_;unfold y0 at h;refine rgN [0] ?_
 refine rc [0, 3, 4] fun K hK => ?_
 obtain ⟨r1, hr1, h⟩ := bind_some h;refine rnN 1 ?_;refine clN rfl rfl rfl (xY.ev a0 r1 hr1 _) ?_;refine rnN 5 ?_;refine nkN hK ?_
 refine za fun Z2 hZ2 => ?_
 refine rc [3, 33] fun K hK => ?_
 refine rnN 3 ?_;refine zh 4 (fun L τ => L = [(0, .str a0), (3, .ds true (qe (va6 .i32) r1.1) (qb r1.1) false), (17, .bool ((!r1.2) || (decide ((qb r1.1 : Int) < 1))))] ∧ τ = []) ?_ ?_
 · refine zI (b := (!r1.2)) 13 rfl (fun hg13 => ?_) (fun hg13 => ?_)
   · refine rnN 4 ?_;refine zb ⟨rfl, _, _, ⟨rfl, rfl⟩, .b hg13⟩
   refine rnN 4 ?_;refine zb ⟨rfl, _, _, ⟨rfl, rfl⟩, .b hg13⟩
 rintro _ _ ⟨rfl, rfl⟩;refine rnN 1 ?_;refine zh 4 (fun L τ => L = [(0, .str a0), (3, .ds true (qe (va6 .i32) r1.1) (qb r1.1) false), (22, .bool (((!r1.2) || (decide ((qb r1.1 : Int) < 1))) || (decide (20 < (qb r1.1 : Int)))))] ∧ τ = []) ?_ ?_
 · refine zI (b := ((!r1.2) || (decide ((qb r1.1 : Int) < 1)))) 18 rfl (fun hg18 => ?_) (fun hg18 => ?_)
   · refine rnN 4 ?_;refine zb ⟨rfl, _, _, ⟨rfl, rfl⟩, .b hg18⟩
   refine rnN 4 ?_;refine zb ⟨rfl, _, _, ⟨rfl, rfl⟩, .b hg18⟩
 rintro _ _ ⟨rfl, rfl⟩;refine rnN 1 ?_;obtain ⟨c3, hc3, h⟩ := bind_some h;refine zh 6 (fun L τ => L = [(0, .str a0), (3, .ds true (qe (va6 .i32) r1.1) (qb r1.1) false), (29, .bool c3)] ∧ τ = []) ?_ ?_
 · refine zI (b := (((!r1.2) || (decide ((qb r1.1 : Int) < 1))) || (decide (20 < (qb r1.1 : Int))))) 23 rfl (fun hg23 => ?_) (fun hg23 => ?_)
   · rw [if_pos hg23] at hc3;refine rnN 6 ?_;cases hc3;refine zb ⟨rfl, _, _, ⟨rfl, rfl⟩, .b hg23⟩
   rw [xN hg23] at hc3;obtain ⟨y4, hy4, hc3⟩ := bind_some hc3;have f5 := E130.idxS hy4;have f6 := E130.fldS0 (f := 21) rfl rfl hy4;obtain ⟨r7, hr7, hc3⟩ := zS hc3;refine zj tok 3 ?_;simp only [go_sem, qc, qa, reduceCtorEq, va6, f5, f6];refine clN rfl rfl rfl (xn.ev y4 r7 hr7 _) ?_;refine rnN 2 ?_;cases hc3;refine zb ⟨rfl, _, _, ⟨rfl, rfl⟩, .b hg23⟩
 rintro _ _ ⟨rfl, rfl⟩;refine rnN 1 ?_;obtain ⟨c8, hc8, h⟩ := zS h;refine zh 3 (fun L τ => L = [(3, .ds true (qe (va6 .i32) r1.1) (qb r1.1) false), (33, .bool c8)] ∧ τ = []) ?_ ?_
 · refine zI (b := c3) 30 rfl (fun hg30 => ?_) (fun hg30 => ?_)
   · rw [if_pos hg30] at hc8;refine rnN 3 ?_;subst hc8;refine zb ⟨rfl, _, _, ⟨rfl, rfl⟩, .b hg30⟩
   rw [xN hg30] at hc8;obtain ⟨r9, hr9, hc8⟩ := zS hc8;refine rnN 1 ?_;refine clN rfl rfl rfl (xe.ev a0 r9 hr9 _) ?_;refine rnN 1 ?_;subst hc8;refine zb ⟨rfl, _, _, ⟨rfl, rfl⟩, .b hg30⟩
 rintro _ _ ⟨rfl, rfl⟩;refine nkN hK ?_;refine zn (b := c8) rfl (fun hc10 => ?_) (fun hc10 => ?_)
 · rw [if_pos hc10] at h;refine rgN [2] ?_;cases h;exact rtA
 rw [xN hc10] at h;apply zd;apply hZ2
 refine za fun Z11 hZ11 => ?_
 refine rgN [3, 5] ?_;apply ze;refine zq (fun m L τ => ∃ (k14 : Nat) (x12 : Int), m = 0 + k14 ∧ L = [(3, .ds true (qe (va6 .i32) r1.1) (qb r1.1) false), (5, .int .i64 x12)] ∧ τ = [] ∧ y0.l14 r1 k14 x12 = some r) _ ⟨rounds, 1, rfl, rfl, rfl, h⟩ .s ?_;rintro m L τ ⟨k14, x12, rfl, rfl, rfl, h⟩
 rcases k14 with _ | k14
 · cases h
 simp only [y0.l14] at h
 refine za fun Z15 hZ15 => ?_
 refine rgN [3, 5, 37] ?_;refine zx rfl (fun hc16 => ?_) (fun hc16 => ?_)
 · rw [if_pos hc16] at h;have t17 := eq_true hc16;apply zd;apply hZ15
   refine za fun Z18 hZ18 => ?_
   apply ze
   refine rc [3, 5, 53] fun K hK => ?_
   obtain ⟨y19, hy19, h⟩ := bind_some h;have f20 := E130.idxS hy19;have f21 := E130.fldS0 (f := 21) rfl rfl hy19;obtain ⟨r22, hr22, h⟩ := zS h;refine zj tok 4 ?_;simp only [go_sem, qc, qa, va6, t17, f20, f21];refine clN rfl rfl rfl (xn.ev y19 r22 hr22 _) ?_;refine rnN 2 ?_;obtain ⟨c23, hc23, h⟩ := zS h;refine zh 7 (fun L τ => L = [(3, .ds true (qe (va6 .i32) r1.1) (qb r1.1) false), (5, .int .i64 x12), (53, .bool c23)] ∧ τ = []) ?_ ?_
   · refine zI (b := (!r22)) 46 rfl (fun hg46 => ?_) (fun hg46 => ?_)
     · rw [if_pos hg46] at hc23;have f24 := E130.idxS hy19;have f25 := E130.fldS0 (f := 21) rfl rfl hy19;obtain ⟨r26, hr26, hc23⟩ := zS hc23;refine zj tok 4 ?_;simp only [go_sem, qc, qa, va6, f24, f25];refine clN rfl rfl rfl (wb.ev y19 r26 hr26 _) ?_;refine rnN 2 ?_;subst hc23;refine zb ⟨rfl, _, _, ⟨rfl, rfl⟩, .b hg46⟩
     rw [xN hg46] at hc23;refine rnN 7 ?_;subst hc23;refine zb ⟨rfl, _, _, ⟨rfl, rfl⟩, .b hg46⟩
   rintro _ _ ⟨rfl, rfl⟩;refine nkN hK ?_;refine zn (b := c23) rfl (fun hc27 => ?_) (fun hc27 => ?_)
   · rw [if_pos hc27] at h;refine rgN [2] ?_;cases h;exact rtA
   rw [xN hc27] at h;apply zd;apply hZ18
   refine rgE tok [3, 5] fun K hK => ?_
   simp only [go_sem, qc, qa];apply hK
   exact ⟨_, _, _, qr (0 + k14), ⟨k14, IntKind.i64.wrap (x12 + 1), rfl, rfl, rfl, h⟩, .s⟩
 rw [if_neg hc16] at h;have t28 := eq_false hc16;apply zv;apply hZ11
 refine rg tok [2] fun K hK => ?_
 simp only [go_sem, qc, qa, t28];apply hK
 cases h;exact rtA
theorem y0.ev (a0 : List UInt8) (r : Bool) (h : y0 a0 = some r) (σ : Store) : ACalls qh 45 [.str a0] σ (fun r' σ' => r' = .bool r ∧ σ' = σ) :=
 (y0.ok a0 r h).c σ
def yo.l4 (a0 : List UInt8) : List (List UInt8) → Int → Option Bool
 | [], x2 => (y0 a0).bind fun r6 => some r6
 | y4 :: q4, x2 => (if y4 = a0 then some false else ((yo.l4 a0 q4) (x2 + 1)))
def yo (a0 : List UInt8) (a1 : List (List UInt8)) : Option Bool :=
 (yo.l4 a0 a1 0)
theorem yo.ok (a0 : List UInt8) (a1 : List (List UInt8)) (r : Bool) (h : yo a0 a1 = some r) : ACalls qh 47 [.str a0, .ds true (qe encS a1) (qb a1) false] [] (fun r' _ => r' = .bool r) := by
 refine zf (rs := [.tmp 4]) tok Tryz.func47 rfl Tryz.ntmps47 rfl Tryz.call47 (by simp) ?_;refine zl [(0, .str a0), (1, .ds true (qe encS a1) (qb a1) false)] ⟨rfl, rfl, trivial⟩ ?_;unfold yo at h;refine rgN [0, 1] ?_
 refine za fun Z1 hZ1 => ?_
 refine rgN [0, 1, 5] ?_;apply ze
 refine yP 1 fun hb4 => ?_
 replace hb4 : qb a1 ≤ 9223372036854775807 := hb4.1;refine zq (fun m L τ => ∃ (p4 q4 : List (List UInt8)) (x2 : Int), m = qb q4 ∧ L = [(0, .str a0), (1, .ds true (qe encS a1) (qb a1) false), (5, .int .i64 x2)] ∧ τ = [] ∧ a1 = p4 ++ q4 ∧ x2 = (qb p4 : Int) ∧ yo.l4 a0 q4 x2 = some r) _ ⟨[], a1, 0, rfl, rfl, rfl, rfl, rfl, h⟩ .s ?_;rintro m L τ ⟨p4, q4, x2, rfl, rfl, rfl, hE4, hi4, h⟩
 rcases q4 with _ | ⟨y4, q4⟩
 · have hz4 := yl hE4 hi4;simp only [yo.l4] at h
   refine za fun Z5 hZ5 => ?_
   refine rg tok [0, 1, 5, 9] fun K hK => ?_
   simp only [go_sem, qc, qa, reduceCtorEq, hz4];apply hK
   refine zm rfl ?_;apply zv;apply hZ1
   refine rc [4] fun K hK => ?_
   obtain ⟨r6, hr6, h⟩ := bind_some h;refine rnN 1 ?_;refine clN rfl rfl rfl (y0.ev a0 r6 hr6 _) ?_;refine rnN 1 ?_;refine nkN hK ?_;cases h;exact rtA
 obtain ⟨hz4, hw4, hx4, hE'4, hi'4⟩ := zW hE4 hi4 hb4;simp only [yo.l4] at h
 refine za fun Z7 hZ7 => ?_
 refine rg tok [0, 1, 5, 9] fun K hK => ?_
 simp only [go_sem, qc, qa, reduceCtorEq, hz4];apply hK
 refine zp rfl ?_;apply zd;apply hZ7
 refine za fun Z8 hZ8 => ?_
 apply ze;have f9 := E98.idxS hx4;have f10 := E98.fldS0 (f := 9) rfl rfl hx4
 refine rg tok [0, 1, 5, 17] fun K hK => ?_
 simp only [go_sem, qc, qa, reduceCtorEq, encS, f9, f10];apply hK
 refine zx rfl (fun hc11 => ?_) (fun hc11 => ?_)
 · rw [if_pos hc11] at h;have t12 := eq_true hc11
   refine rg tok [4] fun K hK => ?_
   simp only [go_sem, qc, qa, reduceCtorEq, t12];apply hK
   cases h;exact rtA
 rw [if_neg hc11] at h;have t13 := eq_false hc11;apply zd;apply hZ8
 refine rgE tok [0, 1, 5] fun K hK => ?_
 simp only [go_sem, qc, qa, reduceCtorEq, hw4, t13];apply hK
 exact ⟨_, _, _, qr q4.length, ⟨p4 ++ [y4], q4, x2 + 1, rfl, rfl, rfl, hE'4, hi'4, h⟩, .s⟩
def yq.l4 (a1 : Int) : List Int → Int → Bool
 | [], x2 => false
 | y4 :: q4, x2 => (if y4 = a1 then true else ((yq.l4 a1 q4) (x2 + 1)))
def yq (a0 : GMessage) (a1 : Int) : Bool :=
 (yq.l4 a1 a0.fReserved 0)
theorem yq.ok (a0 : GMessage) (a1 : Int) (r : Bool) (h : yq a0 a1 = r) : ACalls qh 121 [.agg (encGMessage a0), .int .i64 a1] [] (fun r' _ => r' = .bool r) := by
 refine zf (rs := [.tmp 4]) tok Tryz.func121 rfl Tryz.ntmps121 rfl Tryz.call121 (by simp) ?_;refine zl [(0, .agg (encGMessage a0)), (1, .int .i64 a1)] ⟨rfl, rfl, trivial⟩ ?_;unfold yq at h
 refine rg tok [1, 2] fun K hK => ?_
 simp only [go_sem, qc, qa, qd, reduceCtorEq, encGMessage];apply hK
 refine za fun Z1 hZ1 => ?_
 refine rgN [1, 2, 5] ?_;apply ze
 refine xi 0 rfl fun hb4 => ?_
 replace hb4 : qb a0.fReserved ≤ 9223372036854775807 := hb4.2.2.1.1;refine zq (fun m L τ => ∃ (p4 q4 : List Int) (x2 : Int), m = qb q4 ∧ L = [(1, .int .i64 a1), (2, .op 0 0 0), (5, .int .i64 x2)] ∧ τ = [.cells 0 (encGMessage a0)] ∧ a0.fReserved = p4 ++ q4 ∧ x2 = (qb p4 : Int) ∧ yq.l4 a1 q4 x2 = r) _ ⟨[], a0.fReserved, 0, rfl, rfl, rfl, rfl, rfl, h⟩ .s ?_;rintro m L τ ⟨p4, q4, x2, rfl, rfl, rfl, hE4, hi4, h⟩
 rcases q4 with _ | ⟨y4, q4⟩
 · have hz4 := yl hE4 hi4;simp only [yq.l4] at h
   refine za fun Z5 hZ5 => ?_
   refine rg tok [1, 2, 5, 10] fun K hK => ?_
   simp only [go_sem, qc, qa, qd, hz4];apply hK
   refine zm rfl ?_;apply zv;apply hZ1;refine rgN [4] ?_;cases h;exact rtA
 obtain ⟨hz4, hw4, hx4, hE'4, hi'4⟩ := zW hE4 hi4 hb4;simp only [yq.l4] at h
 refine za fun Z6 hZ6 => ?_
 refine rg tok [1, 2, 5, 10] fun K hK => ?_
 simp only [go_sem, qc, qa, qd, hz4];apply hK
 refine zp rfl ?_;apply zd;apply hZ6
 refine za fun Z7 hZ7 => ?_
 apply ze;have f8 := E45.idxS hx4;have f9 := E45.fldS0 (f := 3) rfl rfl hx4
 refine rg tok [1, 2, 5, 19] fun K hK => ?_
 simp only [go_sem, qc, qa, qd, encI, f8, f9];apply hK
 refine zx rfl (fun hc10 => ?_) (fun hc10 => ?_)
 · rw [if_pos hc10] at h;have t11 := eq_true hc10
   refine rg tok [4] fun K hK => ?_
   simp only [go_sem, qc, qa, t11];apply hK
   cases h;exact rtA
 rw [if_neg hc10] at h;have t12 := eq_false hc10;apply zd;apply hZ7
 refine rgE tok [1, 2, 5] fun K hK => ?_
 simp only [go_sem, qc, qa, hw4, t12];apply hK
 exact ⟨_, _, _, qr q4.length, ⟨p4 ++ [y4], q4, x2 + 1, rfl, rfl, rfl, hE'4, hi'4, h⟩, .s⟩
theorem yq.ev (a0 : GMessage) (a1 : Int) (r : Bool) (h : yq a0 a1 = r) (σ : Store) : ACalls qh 121 [.agg (encGMessage a0), .int .i64 a1] σ (fun r' σ' => r' = .bool r ∧ σ' = σ) :=
 (yq.ok a0 a1 r h).c σ
def yL.l4 (a1 : Int) : List GField → Int → GField × Bool
 | [], x2 => ((⟨[], 0, 0, (⟨0, []⟩ : GType)⟩ : GField), false)
 | y4 :: q4, x2 => (if y4.fTag = a1 then (y4, true) else ((yL.l4 a1 q4) (x2 + 1)))
def yL (a0 : GMessage) (a1 : Int) : GField × Bool :=
 (yL.l4 a1 a0.fFields 0)
theorem yL.ok (a0 : GMessage) (a1 : Int) (r : GField × Bool) (h : yL a0 a1 = r) : ACalls qh 73 [.agg (encGMessage a0), .int .i64 a1] [] (fun r' _ => r' = .tup [.agg (encGField r.1), .bool r.2]) := by
 refine zf (rs := [.cell 4 57, .tmp 5]) tok Tryz.func73 rfl Tryz.ntmps73 rfl Tryz.call73 (by simp) ?_;refine zl [(0, .agg (encGMessage a0)), (1, .int .i64 a1)] ⟨rfl, rfl, trivial⟩ ?_;unfold yL at h
 refine rg tok [1, 2, 4] fun K hK => ?_
 simp only [go_sem, qc, qa, qd, reduceCtorEq, encGMessage];apply hK
 refine za fun Z1 hZ1 => ?_
 refine rgN [1, 2, 4, 6] ?_;apply ze
 refine xi 0 rfl fun hb4 => ?_
 replace hb4 : qb a0.fFields ≤ 9223372036854775807 := hb4.2.1.1;refine zq (fun m L τ => ∃ (p4 q4 : List GField) (x2 : Int), m = qb q4 ∧ L = [(1, .int .i64 a1), (2, .op 0 0 0), (4, .op 1 0 0), (6, .int .i64 x2)] ∧ τ = [.cells 0 (encGMessage a0), .cells 0 [.str [], .int .i64 0, .int .i64 0, .int .i64 0, .str []]] ∧ a0.fFields = p4 ++ q4 ∧ x2 = (qb p4 : Int) ∧ yL.l4 a1 q4 x2 = r) _ ⟨[], a0.fFields, 0, rfl, rfl, rfl, rfl, rfl, h⟩ .s ?_;rintro m L τ ⟨p4, q4, x2, rfl, rfl, rfl, hE4, hi4, h⟩
 rcases q4 with _ | ⟨y4, q4⟩
 · have hz4 := yl hE4 hi4;simp only [yL.l4] at h
   refine za fun Z5 hZ5 => ?_
   refine rg tok [1, 2, 4, 6, 11] fun K hK => ?_
   simp only [go_sem, qc, qa, qd, hz4];apply hK
   refine zm rfl ?_;apply zv;apply hZ1;refine rgN [4, 5] ?_;cases h;exact rtA
 obtain ⟨hz4, hw4, hx4, hE'4, hi'4⟩ := zW hE4 hi4 hb4;simp only [yL.l4] at h
 refine za fun Z6 hZ6 => ?_
 refine rg tok [1, 2, 4, 6, 11] fun K hK => ?_
 simp only [go_sem, qc, qa, qd, hz4];apply hK
 refine zp rfl ?_;apply zd;apply hZ6
 refine za fun Z7 hZ7 => ?_
 apply ze;have f8 := E47.idxS hx4;have f9 := E47.fldS (f := 3) rfl rfl hx4 (o := 1) (by decide)
 refine rg tok [1, 2, 4, 6, 21] fun K hK => ?_
 simp only [go_sem, qc, qa, qd, encGField, f8, f9];apply hK
 refine zx rfl (fun hc10 => ?_) (fun hc10 => ?_)
 · rw [if_pos hc10] at h;have t11 := eq_true hc10;have f12 := E47.idxS hx4;have f13 := E47.loadS rfl rfl hx4
   refine rg tok [4, 5] fun K hK => ?_
   simp only [go_sem, qc, qf, qa, qd, encGField, t11, f12, f13];apply hK
   cases h;exact rtA
 rw [if_neg hc10] at h;have t14 := eq_false hc10;apply zd;apply hZ7
 refine rgE tok [1, 2, 4, 6] fun K hK => ?_
 simp only [go_sem, qc, qa, hw4, t14];apply hK
 exact ⟨_, _, _, qr q4.length, ⟨p4 ++ [y4], q4, x2 + 1, rfl, rfl, rfl, hE'4, hi'4, h⟩, .s⟩
theorem yL.ev (a0 : GMessage) (a1 : Int) (r : GField × Bool) (h : yL a0 a1 = r) (σ : Store) : ACalls qh 73 [.agg (encGMessage a0), .int .i64 a1] σ (fun r' σ' => r' = .tup [.agg (encGField r.1), .bool r.2] ∧ σ' = σ) :=
 (yL.ok a0 a1 r h).c σ
def xL.l4 (a1 : List UInt8) : List GEnumeration → Int → GEnumeration × Bool
 | [], x2 => ((⟨[], ([] : List GNamed)⟩ : GEnumeration), false)
 | y4 :: q4, x2 => (if y4.fName = a1 then (y4, true) else ((xL.l4 a1 q4) (x2 + 1)))
def xL (a0 : GSchema) (a1 : List UInt8) : GEnumeration × Bool :=
 (xL.l4 a1 a0.fEnums 0)
theorem xL.ok (a0 : GSchema) (a1 : List UInt8) (r : GEnumeration × Bool) (h : xL a0 a1 = r) : ACalls qh 147 [.agg (encGSchema a0), .str a1] [] (fun r' _ => r' = .tup [.agg (encGEnumeration r.1), .bool r.2]) := by
 refine zf (rs := [.cell 4 84, .tmp 5]) tok Tryz.func147 rfl Tryz.ntmps147 rfl Tryz.call147 (by simp) ?_;refine zl [(0, .agg (encGSchema a0)), (1, .str a1)] ⟨rfl, rfl, trivial⟩ ?_;unfold xL at h
 refine rg tok [1, 2, 4] fun K hK => ?_
 simp only [go_sem, qc, qa, qd, reduceCtorEq, encGSchema];apply hK
 refine za fun Z1 hZ1 => ?_
 refine rgN [1, 2, 4, 6] ?_;apply ze
 refine xi 0 rfl fun hb4 => ?_
 replace hb4 : qb a0.fEnums ≤ 9223372036854775807 := hb4.2.2.1.1;refine zq (fun m L τ => ∃ (p4 q4 : List GEnumeration) (x2 : Int), m = qb q4 ∧ L = [(1, .str a1), (2, .op 0 0 0), (4, .op 1 0 0), (6, .int .i64 x2)] ∧ τ = [.cells 0 (encGSchema a0), .cells 0 [.str [], .ds true [] 0 true]] ∧ a0.fEnums = p4 ++ q4 ∧ x2 = (qb p4 : Int) ∧ xL.l4 a1 q4 x2 = r) _ ⟨[], a0.fEnums, 0, rfl, rfl, rfl, rfl, rfl, h⟩ .s ?_;rintro m L τ ⟨p4, q4, x2, rfl, rfl, rfl, hE4, hi4, h⟩
 rcases q4 with _ | ⟨y4, q4⟩
 · have hz4 := yl hE4 hi4;simp only [xL.l4] at h
   refine za fun Z5 hZ5 => ?_
   refine rg tok [1, 2, 4, 6, 11] fun K hK => ?_
   simp only [go_sem, qc, qa, qd, hz4];apply hK
   refine zm rfl ?_;apply zv;apply hZ1;refine rgN [4, 5] ?_;cases h;exact rtA
 obtain ⟨hz4, hw4, hx4, hE'4, hi'4⟩ := zW hE4 hi4 hb4;simp only [xL.l4] at h
 refine za fun Z6 hZ6 => ?_
 refine rg tok [1, 2, 4, 6, 11] fun K hK => ?_
 simp only [go_sem, qc, qa, qd, hz4];apply hK
 refine zp rfl ?_;apply zd;apply hZ6
 refine za fun Z7 hZ7 => ?_
 apply ze;have f8 := E23.idxS hx4;have f9 := E23.fldS0 (f := 9) rfl rfl hx4
 refine rg tok [1, 2, 4, 6, 21] fun K hK => ?_
 simp only [go_sem, qc, qa, qd, encGEnumeration, f8, f9];apply hK
 refine zx rfl (fun hc10 => ?_) (fun hc10 => ?_)
 · rw [if_pos hc10] at h;have t11 := eq_true hc10;have f12 := E23.idxS hx4;have f13 := E23.loadS rfl rfl hx4
   refine rg tok [4, 5] fun K hK => ?_
   simp only [go_sem, qc, qf, qa, qd, encGEnumeration, t11, f12, f13];apply hK
   cases h;exact rtA
 rw [if_neg hc10] at h;have t14 := eq_false hc10;apply zd;apply hZ7
 refine rgE tok [1, 2, 4, 6] fun K hK => ?_
 simp only [go_sem, qc, qa, hw4, t14];apply hK
 exact ⟨_, _, _, qr q4.length, ⟨p4 ++ [y4], q4, x2 + 1, rfl, rfl, rfl, hE'4, hi'4, h⟩, .s⟩
theorem xL.ev (a0 : GSchema) (a1 : List UInt8) (r : GEnumeration × Bool) (h : xL a0 a1 = r) (σ : Store) : ACalls qh 147 [.agg (encGSchema a0), .str a1] σ (fun r' σ' => r' = .tup [.agg (encGEnumeration r.1), .bool r.2] ∧ σ' = σ) :=
 (xL.ok a0 a1 r h).c σ
def yf.l4 (a1 : List UInt8) : List GMessage → Int → GMessage × Bool
 | [], x2 => ((⟨[], ([] : List GField), ([] : List Int)⟩ : GMessage), false)
 | y4 :: q4, x2 => (if y4.fName = a1 then (y4, true) else ((yf.l4 a1 q4) (x2 + 1)))
def yf (a0 : GSchema) (a1 : List UInt8) : GMessage × Bool :=
 (yf.l4 a1 a0.fMessages 0)
theorem yf.ok (a0 : GSchema) (a1 : List UInt8) (r : GMessage × Bool) (h : yf a0 a1 = r) : ACalls qh 43 [.agg (encGSchema a0), .str a1] [] (fun r' _ => r' = .tup [.agg (encGMessage r.1), .bool r.2]) := by
 refine zf (rs := [.cell 4 49, .tmp 5]) tok Tryz.func43 rfl Tryz.ntmps43 rfl Tryz.call43 (by simp) ?_;refine zl [(0, .agg (encGSchema a0)), (1, .str a1)] ⟨rfl, rfl, trivial⟩ ?_;unfold yf at h
 refine rg tok [1, 2, 4] fun K hK => ?_
 simp only [go_sem, qc, qa, qd, reduceCtorEq, encGSchema];apply hK
 refine za fun Z1 hZ1 => ?_
 refine rgN [1, 2, 4, 6] ?_;apply ze
 refine xi 0 rfl fun hb4 => ?_
 replace hb4 : qb a0.fMessages ≤ 9223372036854775807 := hb4.2.1.1;refine zq (fun m L τ => ∃ (p4 q4 : List GMessage) (x2 : Int), m = qb q4 ∧ L = [(1, .str a1), (2, .op 0 0 0), (4, .op 1 0 0), (6, .int .i64 x2)] ∧ τ = [.cells 0 (encGSchema a0), .cells 0 [.str [], .ds true [] 0 true, .ds true [] 0 true]] ∧ a0.fMessages = p4 ++ q4 ∧ x2 = (qb p4 : Int) ∧ yf.l4 a1 q4 x2 = r) _ ⟨[], a0.fMessages, 0, rfl, rfl, rfl, rfl, rfl, h⟩ .s ?_;rintro m L τ ⟨p4, q4, x2, rfl, rfl, rfl, hE4, hi4, h⟩
 rcases q4 with _ | ⟨y4, q4⟩
 · have hz4 := yl hE4 hi4;simp only [yf.l4] at h
   refine za fun Z5 hZ5 => ?_
   refine rg tok [1, 2, 4, 6, 11] fun K hK => ?_
   simp only [go_sem, qc, qa, qd, hz4];apply hK
   refine zm rfl ?_;apply zv;apply hZ1;refine rgN [4, 5] ?_;cases h;exact rtA
 obtain ⟨hz4, hw4, hx4, hE'4, hi'4⟩ := zW hE4 hi4 hb4;simp only [yf.l4] at h
 refine za fun Z6 hZ6 => ?_
 refine rg tok [1, 2, 4, 6, 11] fun K hK => ?_
 simp only [go_sem, qc, qa, qd, hz4];apply hK
 refine zp rfl ?_;apply zd;apply hZ6
 refine za fun Z7 hZ7 => ?_
 apply ze;have f8 := E22.idxS hx4;have f9 := E22.fldS0 (f := 9) rfl rfl hx4
 refine rg tok [1, 2, 4, 6, 21] fun K hK => ?_
 simp only [go_sem, qc, qa, qd, encGMessage, f8, f9];apply hK
 refine zx rfl (fun hc10 => ?_) (fun hc10 => ?_)
 · rw [if_pos hc10] at h;have t11 := eq_true hc10;have f12 := E22.idxS hx4;have f13 := E22.loadS rfl rfl hx4
   refine rg tok [4, 5] fun K hK => ?_
   simp only [go_sem, qc, qf, qa, qd, encGMessage, t11, f12, f13];apply hK
   cases h;exact rtA
 rw [if_neg hc10] at h;have t14 := eq_false hc10;apply zd;apply hZ7
 refine rgE tok [1, 2, 4, 6] fun K hK => ?_
 simp only [go_sem, qc, qa, hw4, t14];apply hK
 exact ⟨_, _, _, qr q4.length, ⟨p4 ++ [y4], q4, x2 + 1, rfl, rfl, rfl, hE'4, hi'4, h⟩, .s⟩
theorem yf.ev (a0 : GSchema) (a1 : List UInt8) (r : GMessage × Bool) (h : yf a0 a1 = r) (σ : Store) : ACalls qh 43 [.agg (encGSchema a0), .str a1] σ (fun r' σ' => r' = .tup [.agg (encGMessage r.1), .bool r.2] ∧ σ' = σ) :=
 (yf.ok a0 a1 r h).c σ
def yS.j3 (a0 : GSchema) (a1 : GType) (x2 : Bool) : Bool :=
 (if x2 = true then decide (a1.fName = []) else (if a1.fKind = 6 then bnd (xL a0 a1.fName) fun r7 => r7.2 else (if a1.fKind = 7 then bnd (yf a0 a1.fName) fun r11 => r11.2 else false)))
def yS (a0 : GSchema) (a1 : GType) : Bool :=
 (if a1.fKind = 1 then (yS.j3 a0 a1 (decide (a1.fKind = 1))) else (if a1.fKind = 2 then (yS.j3 a0 a1 (decide (a1.fKind = 2))) else (if a1.fKind = 3 then (yS.j3 a0 a1 (decide (a1.fKind = 3))) else (if a1.fKind = 4 then (yS.j3 a0 a1 (decide (a1.fKind = 4))) else (yS.j3 a0 a1 (decide (a1.fKind = 5)))))))
theorem yS.ok (a0 : GSchema) (a1 : GType) (r : Bool) (h : yS a0 a1 = r) : ACalls qh 122 [.agg (encGSchema a0), .agg (encGType a1)] [] (fun r' _ => r' = .bool r) := by
 refine zf (rs := [.tmp 4]) tok Tryz.func122 rfl Tryz.ntmps122 rfl Tryz.call122 (by simp) ?_;refine zl [(0, .agg (encGSchema a0)), (1, .agg (encGType a1))] ⟨rfl, rfl, trivial⟩ ?_;unfold yS at h
 refine rg tok [2, 3] fun K hK => ?_
 simp only [go_sem, qc, qa, qd, reduceCtorEq, encGSchema, encGType];apply hK
 refine za fun Z1 hZ1 => ?_
 refine rgN [2, 3, 10] ?_;apply ze;refine xy (fun L τ => ∃ (x2 : Bool), L = [(2, .op 0 0 0), (3, .op 1 0 0), (10, .int .i64 a1.fKind), (11, .bool x2)] ∧ τ = [.cells 0 (encGSchema a0), .cells 0 [.int .i64 a1.fKind, .str a1.fName]] ∧ yS.j3 a0 a1 x2 = r) ?_ ?_
 · refine rgN [2, 3, 10, 11] ?_;refine zx rfl (fun hc13 => ?_) (fun hc13 => ?_)
   · rw [if_pos hc13] at h;have t14 := eq_true hc13;apply zd;exact ⟨_, _, ⟨decide (a1.fKind = 1), rfl, rfl, h⟩, .s⟩
   rw [if_neg hc13] at h;have t15 := eq_false hc13
   refine rg tok [2, 3, 10, 11] fun K hK => ?_
   simp only [go_sem, qc, qa, t15];apply hK
   refine zx rfl (fun hc16 => ?_) (fun hc16 => ?_)
   · rw [if_pos hc16] at h;have t17 := eq_true hc16;apply zd;exact ⟨_, _, ⟨decide (a1.fKind = 2), rfl, rfl, h⟩, .s⟩
   rw [if_neg hc16] at h;have t18 := eq_false hc16
   refine rg tok [2, 3, 10, 11] fun K hK => ?_
   simp only [go_sem, qc, qa, t18];apply hK
   refine zx rfl (fun hc19 => ?_) (fun hc19 => ?_)
   · rw [if_pos hc19] at h;have t20 := eq_true hc19;apply zd;exact ⟨_, _, ⟨decide (a1.fKind = 3), rfl, rfl, h⟩, .s⟩
   rw [if_neg hc19] at h;have t21 := eq_false hc19
   refine rg tok [2, 3, 10, 11] fun K hK => ?_
   simp only [go_sem, qc, qa, t21];apply hK
   refine zx rfl (fun hc22 => ?_) (fun hc22 => ?_)
   · rw [if_pos hc22] at h;have t23 := eq_true hc22;apply zd;exact ⟨_, _, ⟨decide (a1.fKind = 4), rfl, rfl, h⟩, .s⟩
   rw [if_neg hc22] at h;have t24 := eq_false hc22
   refine rgE tok [2, 3, 10, 11] fun K hK => ?_
   simp only [go_sem, qc, qa, t24];apply hK
   exact ⟨_, _, ⟨decide (a1.fKind = 5), rfl, rfl, h⟩, .s⟩
 rintro _ _ ⟨x2, rfl, rfl, h⟩;unfold yS.j3 at h;refine zn (b := x2) rfl (fun hc4 => ?_) (fun hc4 => ?_)
 · rw [if_pos hc4] at h;refine rgN [4] ?_;cases h;exact rtA
 rw [xN hc4] at h;refine rgN [2, 3, 10, 20] ?_;refine zx rfl (fun hc5 => ?_) (fun hc5 => ?_)
 · rw [if_pos hc5] at h;have t6 := eq_true hc5
   refine rc [6] fun K hK => ?_
   obtain ⟨r7, hr7, h⟩ := zS h;refine zj tok 3 ?_;simp only [go_sem, qc, qf, qa, qd, t6];refine clN rfl rfl rfl (xL.ev a0 a1.fName r7 hr7 _) ?_;refine zj tok 6 ?_;simp only [go_sem, qc, qf, qa, qd, encGEnumeration];refine nkN hK ?_;refine rgN [4] ?_;cases h;exact rtA
 rw [if_neg hc5] at h;have t8 := eq_false hc5
 refine rg tok [2, 3, 30] fun K hK => ?_
 simp only [go_sem, qc, qa, t8];apply hK
 refine zx rfl (fun hc9 => ?_) (fun hc9 => ?_)
 · rw [if_pos hc9] at h;have t10 := eq_true hc9
   refine rc [8] fun K hK => ?_
   obtain ⟨r11, hr11, h⟩ := zS h;refine zj tok 3 ?_;simp only [go_sem, qc, qf, qa, qd, t10];refine clN rfl rfl rfl (yf.ev a0 a1.fName r11 hr11 _) ?_;refine zj tok 6 ?_;simp only [go_sem, qc, qf, qa, qd, encGMessage];refine nkN hK ?_;refine rgN [4] ?_;cases h;exact rtA
 rw [if_neg hc9] at h;have t12 := eq_false hc9;apply zd;apply hZ1
 refine rg tok [4] fun K hK => ?_
 simp only [go_sem, qc, qa, t12];apply hK
 cases h;exact rtA
theorem yS.ev (a0 : GSchema) (a1 : GType) (r : Bool) (h : yS a0 a1 = r) (σ : Store) : ACalls qh 122 [.agg (encGSchema a0), .agg (encGType a1)] σ (fun r' σ' => r' = .bool r ∧ σ' = σ) :=
 (yS.ok a0 a1 r h).c σ
def zF.l17 (a0 : GSchema) (a1 : GMessage) : List GField → Int → List (List UInt8) → Option Int
 | [], x13, l11 => some 0
 | y17 :: q17, x13, l11 => (yo y17.fName l11).bind fun r24 => (if (!r24) = true then some 6 else (ZZ (qb l11 + 1) 16).bind fun _u26 => (grd ((0 : Int) ≤ 0 ∧ 0 ≤ x13 ∧ x13 ≤ (qb a1.fFields : Int))).bind fun _u29 => bnd (yL (⟨[], YP a1.fFields 0 x13, ([] : List Int)⟩ : GMessage) y17.fTag) fun r31 => bnd (if ((r31.2 || (decide (y17.fTag < 1))) || (decide (500 < y17.fTag))) = true then true else bnd (yq a1 y17.fTag) fun r32 => r32) fun c32 => (if c32 = true then some 7 else bnd (if ((decide (y17.fLabel < 1)) || (decide (3 < y17.fLabel))) = true then true else bnd (yS a0 y17.fType) fun r37 => !r37) fun c37 => (if c37 = true then some 8 else ((zF.l17 a0 a1 q17) (x13 + 1) (l11 ++ [y17.fName])))))
def zF.j43 (x6 : Int) (rec8 : Int → Option Int) (x42 : Bool) : Option Int :=
 (if x42 = true then some 7 else (rec8 (x6 + 1)))
def zF.l8 (a0 : GSchema) (a1 : GMessage) : List Int → Int → Option Int
 | [], x6 => (zF.l17 a0 a1 a1.fFields 0 ([] : List (List UInt8)))
 | y8 :: q8, x6 => (if y8 < 1 then (zF.j43 x6 (zF.l8 a0 a1 q8) true) else (if 500 < y8 then (zF.j43 x6 (zF.l8 a0 a1 q8) true) else (grd ((0 : Int) ≤ 0 ∧ 0 ≤ x6 ∧ x6 ≤ (qb a1.fReserved : Int))).bind fun _u53 => bnd (yq (⟨[], ([] : List GField), YP a1.fReserved 0 x6⟩ : GMessage) y8) fun r57 => (zF.j43 x6 (zF.l8 a0 a1 q8) r57)))
def zF (a0 : GSchema) (a1 : GMessage) : Option Int :=
 (if ((decide (16 < (qb a1.fFields : Int))) || (decide (32 < (qb a1.fReserved : Int)))) = true then some 4 else (zF.l8 a0 a1 a1.fReserved 0))
theorem zF.ok (a0 : GSchema) (a1 : GMessage) (r : Int) (h : zF a0 a1 = some r) : ACalls qh 82 [.agg (encGSchema a0), .agg (encGMessage a1)] [] (fun r' _ => r' = .int .i64 r) := by
 refine zf (rs := [.tmp 4]) tok Tryz.func82 rfl Tryz.ntmps82 rfl Tryz.call82 (by simp) ?_;refine zl [(0, .agg (encGSchema a0)), (1, .agg (encGMessage a1))] ⟨rfl, rfl, trivial⟩ ?_;unfold zF at h
 refine rg tok [2, 3] fun K hK => ?_
 simp only [go_sem, qc, qa, qd, reduceCtorEq, encGMessage, encGSchema];apply hK
 refine za fun Z1 hZ1 => ?_
 refine rc [2, 3, 20] fun K hK => ?_
 refine rnN 5 ?_;refine zh 5 (fun L τ => L = [(2, .op 0 0 0), (3, .op 1 0 0), (20, .bool ((decide (16 < (qb a1.fFields : Int))) || (decide (32 < (qb a1.fReserved : Int)))))] ∧ τ = [.cells 0 (encGSchema a0), .cells 0 (encGMessage a1)]) ?_ ?_
 · refine yA 15 rfl (fun hg15 => ?_) (fun hg15 => ?_)
   · have t2 := eq_true hg15;refine rnN 5 ?_;refine zb ⟨rfl, _, _, ⟨rfl, rfl⟩, .p t2⟩
   have t3 := eq_false hg15;refine rnN 5 ?_;refine zb ⟨rfl, _, _, ⟨rfl, rfl⟩, .p t3⟩
 rintro _ _ ⟨rfl, rfl⟩;refine nkN hK ?_;refine zn (b := ((decide (16 < (qb a1.fFields : Int))) || (decide (32 < (qb a1.fReserved : Int))))) rfl (fun hc4 => ?_) (fun hc4 => ?_)
 · rw [if_pos hc4] at h;refine rgN [4] ?_;cases h;exact rtA
 rw [xN hc4] at h;apply zd;apply hZ1
 refine za fun Z5 hZ5 => ?_
 refine rgN [2, 3, 5] ?_;apply ze
 refine xi 1 rfl fun hb8 => ?_
 replace hb8 : qb a1.fReserved ≤ 9223372036854775807 := hb8.2.2.1.1;refine zq (fun m L τ => ∃ (p8 q8 : List Int) (x6 : Int), m = qb q8 ∧ L = [(2, .op 0 0 0), (3, .op 1 0 0), (5, .int .i64 x6)] ∧ τ = [.cells 0 (encGSchema a0), .cells 0 (encGMessage a1)] ∧ a1.fReserved = p8 ++ q8 ∧ x6 = (qb p8 : Int) ∧ zF.l8 a0 a1 q8 x6 = some r) _ ⟨[], a1.fReserved, 0, rfl, rfl, rfl, rfl, rfl, h⟩ .s ?_;rintro m L τ ⟨p8, q8, x6, rfl, rfl, rfl, hE8, hi8, h⟩
 rcases q8 with _ | ⟨y8, q8⟩
 · have hz8 := yl hE8 hi8;simp only [zF.l8] at h
   refine za fun Z9 hZ9 => ?_
   refine rg tok [2, 3, 5, 25] fun K hK => ?_
   simp only [go_sem, qc, qa, qd, hz8];apply hK
   refine zm rfl ?_;apply zv;apply hZ5;refine rgN [2, 3, 6] ?_;refine wC 6 1 rfl ?_;refine zU (L := [(2, .op 0 0 0), (3, .op 1 0 0), (6, .os true 1 2 0 0 (qb ([] : List (List UInt8))) false)]) (τ := [.cells 0 (encGSchema a0), .cells 0 (encGMessage a1), .cells 0 (qe encS ([] : List (List UInt8)))]) .s ?_
   refine za fun Z10 hZ10 => ?_
   refine rgN [2, 3, 6, 7] ?_;apply ze
   refine xi 1 rfl fun hb17 => ?_
   replace hb17 : qb a1.fFields ≤ 9223372036854775807 := hb17.2.1.1;refine zq (fun m L τ => ∃ (p17 q17 : List GField) (x13 : Int) (l11 : List (List UInt8)) (v12 : Nat), m = qb q17 ∧ L = [(2, .op 0 0 0), (3, .op 1 0 0), (6, .os true 1 2 v12 0 (qb l11) false), (7, .int .i64 x13)] ∧ τ = [.cells 0 (encGSchema a0), .cells 0 (encGMessage a1), .cells v12 (qe encS l11)] ∧ a1.fFields = p17 ++ q17 ∧ x13 = (qb p17 : Int) ∧ zF.l17 a0 a1 q17 x13 l11 = some r) _ ⟨[], a1.fFields, 0, ([] : List (List UInt8)), 0, rfl, rfl, rfl, rfl, rfl, h⟩ .s ?_;rintro m L τ ⟨p17, q17, x13, l11, v12, rfl, rfl, rfl, hE17, hi17, h⟩
   rcases q17 with _ | ⟨y17, q17⟩
   · have hz17 := yl hE17 hi17;simp only [zF.l17] at h
     refine za fun Z18 hZ18 => ?_
     refine rg tok [2, 3, 6, 7, 59] fun K hK => ?_
     simp only [go_sem, qc, qa, qd, hz17];apply hK
     refine zm rfl ?_;apply zv;apply hZ10;refine rgN [4] ?_;cases h;exact rtA
   obtain ⟨hz17, hw17, hx17, hE'17, hi'17⟩ := zW hE17 hi17 hb17;simp only [zF.l17] at h
   refine za fun Z19 hZ19 => ?_
   refine rg tok [2, 3, 6, 7, 59] fun K hK => ?_
   simp only [go_sem, qc, qa, qd, hz17];apply hK
   refine zp rfl ?_;apply zd;apply hZ19
   refine za fun Z20 hZ20 => ?_
   apply ze;have f21 := E47.idxS hx17;have f22 := E47.loadS rfl rfl hx17
   refine rg tok [2, 3, 6, 7, 8] fun K hK => ?_
   simp only [go_sem, qc, qf, qa, qd, encGField, f21, f22];apply hK
   refine za fun Z23 hZ23 => ?_
   refine rc [2, 3, 6, 7, 8, 71] fun K hK => ?_
   obtain ⟨r24, hr24, h⟩ := bind_some h;refine rnN 3 ?_;refine clN rfl rfl rfl (yo.ok y17.fName l11 r24 hr24).ld ?_;refine rnN 1 ?_;refine nkN hK ?_;refine zn (b := (!r24)) rfl (fun hc25 => ?_) (fun hc25 => ?_)
   · rw [if_pos hc25] at h;refine rgN [4] ?_;cases h;exact rtA
   rw [xN hc25] at h;apply zd;apply hZ23;obtain ⟨_u26, hu26, h⟩ := bind_some h;have gu26 := yd hu26;have f27 := (zr E98.len l11)
   refine rg tok [2, 3, 6, 7, 8] fun K hK => ?_
   simp only [go_sem, qc, qf, qa, qd, qq, zH, zX, q2, qW, true_and, ub, z6, zM, yg, gu26, f27, yv, q9, qY, AV.one, qU, qz, qj, ql, qm, qE];apply hK
   refine zU (L := [(2, .op 0 0 0), (3, .op 1 0 0), (6, .os true 1 2 (v12 + 1) 0 (qb (l11 ++ [y17.fName])) false), (7, .int .i64 x13), (8, .op 3 0 0)]) (τ := [.cells 0 (encGSchema a0), .cells 0 (encGMessage a1), .cells (v12 + 1) (qe encS (l11 ++ [y17.fName])), .cells 0 (encGField y17), .cells 0 [.str y17.fName]]) .s ?_
   refine za fun Z28 hZ28 => ?_
   obtain ⟨_u29, hu29, h⟩ := bind_some h;have gu29 := wN hu29;have f30 := E47.sl_hi gu29;obtain ⟨r31, hr31, h⟩ := zS h
   refine rd [2, 3, 6, 7, 8, 10] fun K hK => ?_
   refine DW.start (T := tab) [.any, .at [], .any, .any, .any, .any, .at [], .eff, .any, .any, .any, .flt, .eff, .any] [] ?_;refine DW.runN tok 7 ?_;simp only [go_sem, qc, qf, qa, qd, f30];refine DW.call rfl rfl rfl (ACalls.loose (yL.ev (⟨[], YP a1.fFields 0 x13, ([] : List Int)⟩ : GMessage) y17.fTag r31 hr31 _)) ?_;refine DW.runN tok 6 ?_;simp only [go_sem, qc, qf, qa, qd, encGField];refine DW.fin tok (by decide +kernel) rfl ?_;simp only [zo, upd, qa, reduceIte, yG, xr];apply hK
   refine rc [2, 3, 6, 7, 8, 104] fun K hK => ?_
   refine rnN 2 ?_;refine zh 4 (fun L τ => L = [(2, .op 0 0 0), (3, .op 1 0 0), (6, .os true 1 2 (v12 + 1) 0 (qb (l11 ++ [y17.fName])) false), (7, .int .i64 x13), (8, .op 3 0 0), (93, .bool (r31.2 || (decide (y17.fTag < 1))))] ∧ τ = [.cells 0 (encGSchema a0), .cells 0 (encGMessage a1), .cells (v12 + 1) (qe encS (l11 ++ [y17.fName])), .cells 0 (encGField y17), .cells 0 [.str y17.fName], .cells 0 (encGField r31.1)]) ?_ ?_
   · refine zI (b := r31.2) 89 rfl (fun hg89 => ?_) (fun hg89 => ?_)
     · refine rnN 4 ?_;refine zb ⟨rfl, _, _, ⟨rfl, rfl⟩, .b hg89⟩
     refine rnN 4 ?_;refine zb ⟨rfl, _, _, ⟨rfl, rfl⟩, .b hg89⟩
   rintro _ _ ⟨rfl, rfl⟩;refine rnN 1 ?_;refine zh 4 (fun L τ => L = [(2, .op 0 0 0), (3, .op 1 0 0), (6, .os true 1 2 (v12 + 1) 0 (qb (l11 ++ [y17.fName])) false), (7, .int .i64 x13), (8, .op 3 0 0), (98, .bool ((r31.2 || (decide (y17.fTag < 1))) || (decide (500 < y17.fTag))))] ∧ τ = [.cells 0 (encGSchema a0), .cells 0 (encGMessage a1), .cells (v12 + 1) (qe encS (l11 ++ [y17.fName])), .cells 0 (encGField y17), .cells 0 [.str y17.fName], .cells 0 (encGField r31.1)]) ?_ ?_
   · refine zI (b := (r31.2 || (decide (y17.fTag < 1)))) 94 rfl (fun hg94 => ?_) (fun hg94 => ?_)
     · refine rnN 4 ?_;refine zb ⟨rfl, _, _, ⟨rfl, rfl⟩, .b hg94⟩
     refine rnN 4 ?_;refine zb ⟨rfl, _, _, ⟨rfl, rfl⟩, .b hg94⟩
   rintro _ _ ⟨rfl, rfl⟩;refine rnN 1 ?_;obtain ⟨c32, hc32, h⟩ := zS h;refine zh 5 (fun L τ => L = [(2, .op 0 0 0), (3, .op 1 0 0), (6, .os true 1 2 (v12 + 1) 0 (qb (l11 ++ [y17.fName])) false), (7, .int .i64 x13), (8, .op 3 0 0), (104, .bool c32)] ∧ τ = [.cells 0 (encGSchema a0), .cells 0 (encGMessage a1), .cells (v12 + 1) (qe encS (l11 ++ [y17.fName])), .cells 0 (encGField y17), .cells 0 [.str y17.fName], .cells 0 (encGField r31.1)]) ?_ ?_
   · refine zI (b := ((r31.2 || (decide (y17.fTag < 1))) || (decide (500 < y17.fTag)))) 99 rfl (fun hg99 => ?_) (fun hg99 => ?_)
     · rw [if_pos hg99] at hc32;refine rnN 5 ?_;subst hc32;refine zb ⟨rfl, _, _, ⟨rfl, rfl⟩, .b hg99⟩
     rw [xN hg99] at hc32;obtain ⟨r33, hr33, hc32⟩ := zS hc32;refine rnN 3 ?_;refine clN rfl rfl rfl (yq.ev a1 y17.fTag r33 hr33 _) ?_;refine rnN 1 ?_;subst hc32;refine zb ⟨rfl, _, _, ⟨rfl, rfl⟩, .b hg99⟩
   rintro _ _ ⟨rfl, rfl⟩;refine nkN hK ?_;refine zn (b := c32) rfl (fun hc34 => ?_) (fun hc34 => ?_)
   · rw [if_pos hc34] at h;refine rgN [4] ?_;cases h;exact rtA
   rw [xN hc34] at h;apply zd;apply hZ28
   refine rc [2, 3, 6, 7, 119] fun K hK => ?_
   refine rnN 4 ?_;refine zh 4 (fun L τ => L = [(2, .op 0 0 0), (3, .op 1 0 0), (6, .os true 1 2 (v12 + 1) 0 (qb (l11 ++ [y17.fName])) false), (7, .int .i64 x13), (8, .op 3 0 0), (112, .bool ((decide (y17.fLabel < 1)) || (decide (3 < y17.fLabel))))] ∧ τ = [.cells 0 (encGSchema a0), .cells 0 (encGMessage a1), .cells (v12 + 1) (qe encS (l11 ++ [y17.fName])), .cells 0 (encGField y17), .cells 0 [.str y17.fName], .cells 0 (encGField r31.1)]) ?_ ?_
   · refine yA 108 rfl (fun hg108 => ?_) (fun hg108 => ?_)
     · have t35 := eq_true hg108;refine rnN 4 ?_;refine zb ⟨rfl, _, _, ⟨rfl, rfl⟩, .p t35⟩
     have t36 := eq_false hg108;refine rnN 4 ?_;refine zb ⟨rfl, _, _, ⟨rfl, rfl⟩, .p t36⟩
   rintro _ _ ⟨rfl, rfl⟩;refine rnN 1 ?_;obtain ⟨c37, hc37, h⟩ := zS h;refine zh 6 (fun L τ => L = [(2, .op 0 0 0), (3, .op 1 0 0), (6, .os true 1 2 (v12 + 1) 0 (qb (l11 ++ [y17.fName])) false), (7, .int .i64 x13), (119, .bool c37)] ∧ τ = [.cells 0 (encGSchema a0), .cells 0 (encGMessage a1), .cells (v12 + 1) (qe encS (l11 ++ [y17.fName])), .cells 0 (encGField y17), .cells 0 [.str y17.fName], .cells 0 (encGField r31.1)]) ?_ ?_
   · refine zI (b := ((decide (y17.fLabel < 1)) || (decide (3 < y17.fLabel)))) 113 rfl (fun hg113 => ?_) (fun hg113 => ?_)
     · rw [if_pos hg113] at hc37;refine rnN 6 ?_;subst hc37;refine zb ⟨rfl, _, _, ⟨rfl, rfl⟩, .b hg113⟩
     rw [xN hg113] at hc37;obtain ⟨r38, hr38, hc37⟩ := zS hc37;refine rnN 3 ?_;refine clN rfl rfl rfl (yS.ev a0 y17.fType r38 hr38 _) ?_;refine rnN 2 ?_;subst hc37;refine zb ⟨rfl, _, _, ⟨rfl, rfl⟩, .b hg113⟩
   rintro _ _ ⟨rfl, rfl⟩;refine nkN hK ?_;refine zn (b := c37) rfl (fun hc39 => ?_) (fun hc39 => ?_)
   · rw [if_pos hc39] at h;refine rgN [4] ?_;cases h;exact rtA
   rw [xN hc39] at h;apply zd;apply hZ20
   refine rgE tok [2, 3, 6, 7] fun K hK => ?_
   simp only [go_sem, qc, qa, hw17];apply hK
   exact ⟨_, _, _, qr q17.length, ⟨p17 ++ [y17], q17, x13 + 1, l11 ++ [y17.fName], v12 + 1, rfl, rfl, rfl, hE'17, hi'17, h⟩, (.t [0, 1, 2] false)⟩
 obtain ⟨hz8, hw8, hx8, hE'8, hi'8⟩ := zW hE8 hi8 hb8;simp only [zF.l8] at h
 refine za fun Z40 hZ40 => ?_
 refine rg tok [2, 3, 5, 25] fun K hK => ?_
 simp only [go_sem, qc, qa, qd, hz8];apply hK
 refine zp rfl ?_;apply zd;apply hZ40
 refine za fun Z41 hZ41 => ?_
 apply ze;refine xy (fun L τ => ∃ (x42 : Bool), L = [(2, .op 0 0 0), (3, .op 1 0 0), (5, .int .i64 x6), (54, .bool x42)] ∧ τ = [.cells 0 (encGSchema a0), .cells 0 (encGMessage a1)] ∧ zF.j43 x6 (zF.l8 a0 a1 q8) x42 = some r) ?_ ?_
 · refine rdE [2, 3, 5, 54] fun K hK => ?_
   refine DW.start (T := tab) [.any, .at [], .any, .any, .at [], .any, .any, .any, .at [], .any, .any, .at [], .any, .any, .any, .any, .at [], .any, .any, .any, .any, .at [], .any, .any, .at [], .eff, .any] [] ?_;have f45 := E45.idxS hx8;have f46 := E45.fldS0 (f := 3) rfl rfl hx8;refine DW.runN tok 7 ?_;simp only [go_sem, qc, qa, qd, encI, f45, f46]
   refine DW.if 34 rfl (fun hg34 => ?_) (fun hg34 => ?_)
   · rw [if_pos hg34] at h;have t47 := eq_true hg34;refine DW.runN tok 8 ?_;simp only [go_sem, qc, qa, t47];refine DW.runN tok 8 ?_;simp only [go_sem, qc, qa];refine DW.runN tok 4 ?_;simp only [go_sem, qc, qa];refine DW.fin tok (by decide +kernel) rfl ?_;simp only [zo, upd, qa, reduceIte, yG, xr];apply hK
     exact ⟨_, _, ⟨true, rfl, rfl, h⟩, .s⟩
   rw [if_neg hg34] at h;have t48 := eq_false hg34;have f49 := E45.idxS hx8;have f50 := E45.fldS0 (f := 3) rfl rfl hx8;refine DW.runN tok 8 ?_;simp only [go_sem, qc, qa, qd, encI, t48, f49, f50]
   refine DW.if 42 rfl (fun hg42 => ?_) (fun hg42 => ?_)
   · rw [if_pos hg42] at h;have t51 := eq_true hg42;refine DW.runN tok 8 ?_;simp only [go_sem, qc, qa, t51];refine DW.runN tok 4 ?_;simp only [go_sem, qc, qa];refine DW.fin tok (by decide +kernel) rfl ?_;simp only [zo, upd, qa, reduceIte, yG, xr];apply hK
     exact ⟨_, _, ⟨true, rfl, rfl, h⟩, .s⟩
   rw [if_neg hg42] at h;have t52 := eq_false hg42;obtain ⟨_u53, hu53, h⟩ := bind_some h;have gu53 := wN hu53;have f54 := E45.sl_hi gu53;have f55 := E45.idxS hx8;have f56 := E45.fldS0 (f := 3) rfl rfl hx8;obtain ⟨r57, hr57, h⟩ := zS h;refine DW.runN tok 8 ?_;simp only [go_sem, qc, qf, qa, qd, t52, f54];refine DW.runN tok 2 ?_;simp only [go_sem, qc, qa, encI, f55, f56];refine DW.call rfl rfl rfl (ACalls.loose (yq.ev (⟨[], ([] : List GField), YP a1.fReserved 0 x6⟩ : GMessage) y8 r57 hr57 _)) ?_;refine DW.runN tok 1 ?_;simp only [go_sem, qc, qa];refine DW.fin tok (by decide +kernel) rfl ?_;simp only [zo, upd, qa, reduceIte, yG, xr];apply hK
   exact ⟨_, _, ⟨r57, rfl, rfl, h⟩, .s⟩
 rintro _ _ ⟨x42, rfl, rfl, h⟩;unfold zF.j43 at h;refine zn (b := x42) rfl (fun hc44 => ?_) (fun hc44 => ?_)
 · rw [if_pos hc44] at h;refine rgN [4] ?_;cases h;exact rtA
 rw [xN hc44] at h;apply zd;apply hZ41
 refine rgE tok [2, 3, 5] fun K hK => ?_
 simp only [go_sem, qc, qa, hw8];apply hK
 exact ⟨_, _, _, qr q8.length, ⟨p8 ++ [y8], q8, x6 + 1, rfl, rfl, rfl, hE'8, hi'8, h⟩, .s⟩
theorem zF.ev (a0 : GSchema) (a1 : GMessage) (r : Int) (h : zF a0 a1 = some r) (σ : Store) : ACalls qh 82 [.agg (encGSchema a0), .agg (encGMessage a1)] σ (fun r' σ' => r' = .int .i64 r ∧ σ' = σ) :=
 (zF.ok a0 a1 r h).c σ
def zZ.l38 (a0 : GEnumeration) (x17 : Int) (l15 : List (List UInt8)) (rec21 : Int → List (List UInt8) → Option Int) (y21 : GNamed) : Nat → Int → Option Int
 | 0, _ => none
 | k38 + 1, x36 => (if x36 < x17 then (wV a0.fValues x36).bind fun y43 => (if y43.fN = y21.fN then some 11 else ((zZ.l38 a0 x17 l15 rec21 y21 k38) (IntKind.i64.wrap (x36 + 1)))) else (rec21 (x17 + 1) (l15 ++ [y21.fName])))
def zZ.l21 (a0 : GEnumeration) : List GNamed → Int → List (List UInt8) → Option Int
 | [], x17, l15 => some 0
 | y21 :: q21, x17, l15 => (yo y21.fName l15).bind fun r28 => (if (!r28) = true then some 6 else (ZZ (qb l15 + 1) 16).bind fun _u30 => (if ((decide (y21.fN < 0)) || (decide (2147483647 < y21.fN))) = true then some 11 else (zZ.l38 a0 x17 l15 (zZ.l21 a0 q21) y21 rounds 0)))
def zZ.l10 (a0 : GEnumeration) : List GNamed → Int → Bool → Option Int
 | [], x7, x6 => (if (!x6) = true then some 12 else (zZ.l21 a0 a0.fValues 0 ([] : List (List UInt8))))
 | y10 :: q10, x7, x6 => ((zZ.l10 a0 q10) (x7 + 1) (x6 || (decide (y10.fN = 0))))
def zZ (a0 : GEnumeration) : Option Int :=
 (if 16 < (qb a0.fValues : Int) then some 4 else (zZ.l10 a0 a0.fValues 0 false))
theorem zZ.ok (a0 : GEnumeration) (r : Int) (h : zZ a0 = some r) : ACalls qh 83 [.agg (encGEnumeration a0)] [] (fun r' _ => r' = .int .i64 r) := by
 refine zf (rs := [.tmp 2]) tok Tryz.func83 rfl Tryz.ntmps83 rfl Tryz.call83 (by simp) ?_;refine zl [(0, .agg (encGEnumeration a0))] ⟨rfl, trivial⟩ ?_;unfold zZ at h
 refine rg tok [1] fun K hK => ?_
 simp only [go_sem, qc, qa, qd, reduceCtorEq, encGEnumeration];apply hK
 refine za fun Z1 hZ1 => ?_
 refine rgN [1, 12] ?_;refine zx rfl (fun hc2 => ?_) (fun hc2 => ?_)
 · rw [if_pos hc2] at h;have t3 := eq_true hc2
   refine rg tok [2] fun K hK => ?_
   simp only [go_sem, qc, qa, t3];apply hK
   cases h;exact rtA
 rw [if_neg hc2] at h;have t4 := eq_false hc2;apply zd;apply hZ1
 refine rg tok [1, 3] fun K hK => ?_
 simp only [go_sem, qc, qa, t4];apply hK
 refine za fun Z5 hZ5 => ?_
 refine rgN [1, 3, 4] ?_;apply ze
 refine xi 0 rfl fun hb10 => ?_
 replace hb10 : qb a0.fValues ≤ 9223372036854775807 := hb10.2.1.1;refine zq (fun m L τ => ∃ (p10 q10 : List GNamed) (x7 : Int) (x6 : Bool), m = qb q10 ∧ L = [(1, .op 0 0 0), (3, .bool x6), (4, .int .i64 x7)] ∧ τ = [.cells 0 (encGEnumeration a0)] ∧ a0.fValues = p10 ++ q10 ∧ x7 = (qb p10 : Int) ∧ zZ.l10 a0 q10 x7 x6 = some r) _ ⟨[], a0.fValues, 0, false, rfl, rfl, rfl, rfl, rfl, h⟩ .s ?_;rintro m L τ ⟨p10, q10, x7, x6, rfl, rfl, rfl, hE10, hi10, h⟩
 rcases q10 with _ | ⟨y10, q10⟩
 · have hz10 := yl hE10 hi10;simp only [zZ.l10] at h
   refine za fun Z11 hZ11 => ?_
   refine rg tok [1, 3, 4, 17] fun K hK => ?_
   simp only [go_sem, qc, qa, qd, hz10];apply hK
   refine zm rfl ?_;apply zv;apply hZ5
   refine za fun Z12 hZ12 => ?_
   refine rgN [1, 31] ?_;refine zn (b := (!x6)) rfl (fun hc13 => ?_) (fun hc13 => ?_)
   · rw [if_pos hc13] at h;refine rgN [2] ?_;cases h;exact rtA
   rw [xN hc13] at h;apply zd;apply hZ12;refine rgN [1, 5] ?_;refine wC 5 1 rfl ?_;refine zU (L := [(1, .op 0 0 0), (5, .os true 1 1 0 0 (qb ([] : List (List UInt8))) false)]) (τ := [.cells 0 (encGEnumeration a0), .cells 0 (qe encS ([] : List (List UInt8)))]) .s ?_
   refine za fun Z14 hZ14 => ?_
   refine rgN [1, 5, 6] ?_;apply ze
   refine xi 0 rfl fun hb21 => ?_
   replace hb21 : qb a0.fValues ≤ 9223372036854775807 := hb21.2.1.1;refine zq (fun m L τ => ∃ (p21 q21 : List GNamed) (x17 : Int) (l15 : List (List UInt8)) (v16 : Nat), m = qb q21 ∧ L = [(1, .op 0 0 0), (5, .os true 1 1 v16 0 (qb l15) false), (6, .int .i64 x17)] ∧ τ = [.cells 0 (encGEnumeration a0), .cells v16 (qe encS l15)] ∧ a0.fValues = p21 ++ q21 ∧ x17 = (qb p21 : Int) ∧ zZ.l21 a0 q21 x17 l15 = some r) _ ⟨[], a0.fValues, 0, ([] : List (List UInt8)), 0, rfl, rfl, rfl, rfl, rfl, h⟩ .s ?_;rintro m L τ ⟨p21, q21, x17, l15, v16, rfl, rfl, rfl, hE21, hi21, h⟩
   rcases q21 with _ | ⟨y21, q21⟩
   · have hz21 := yl hE21 hi21;simp only [zZ.l21] at h
     refine za fun Z22 hZ22 => ?_
     refine rg tok [1, 5, 6, 36] fun K hK => ?_
     simp only [go_sem, qc, qa, qd, hz21];apply hK
     refine zm rfl ?_;apply zv;apply hZ14;refine rgN [2] ?_;cases h;exact rtA
   obtain ⟨hz21, hw21, hx21, hE'21, hi'21⟩ := zW hE21 hi21 hb21;simp only [zZ.l21] at h
   refine za fun Z23 hZ23 => ?_
   refine rg tok [1, 5, 6, 36] fun K hK => ?_
   simp only [go_sem, qc, qa, qd, hz21];apply hK
   refine zp rfl ?_;apply zd;apply hZ23
   refine za fun Z24 hZ24 => ?_
   apply ze;have f25 := E82.idxS hx21;have f26 := E82.loadS rfl rfl hx21
   refine rg tok [1, 5, 6, 7] fun K hK => ?_
   simp only [go_sem, qc, qf, qa, qd, encGNamed, f25, f26];apply hK
   refine za fun Z27 hZ27 => ?_
   refine rc [1, 5, 6, 7, 48] fun K hK => ?_
   obtain ⟨r28, hr28, h⟩ := bind_some h;refine rnN 3 ?_;refine clN rfl rfl rfl (yo.ok y21.fName l15 r28 hr28).ld ?_;refine rnN 1 ?_;refine nkN hK ?_;refine zn (b := (!r28)) rfl (fun hc29 => ?_) (fun hc29 => ?_)
   · rw [if_pos hc29] at h;refine rgN [2] ?_;cases h;exact rtA
   rw [xN hc29] at h;apply zd;apply hZ27;obtain ⟨_u30, hu30, h⟩ := bind_some h;have gu30 := yd hu30;have f31 := (zr E98.len l15)
   refine rg tok [1, 5, 6, 7] fun K hK => ?_
   simp only [go_sem, qc, qf, qa, qd, qq, zH, zX, q2, qW, true_and, ub, z6, zM, yg, gu30, f31, yv, q9, qY, AV.one, qU, qz, qj, ql, qm, qE];apply hK
   refine zU (L := [(1, .op 0 0 0), (5, .os true 1 1 (v16 + 1) 0 (qb (l15 ++ [y21.fName])) false), (6, .int .i64 x17), (7, .op 2 0 0)]) (τ := [.cells 0 (encGEnumeration a0), .cells (v16 + 1) (qe encS (l15 ++ [y21.fName])), .cells 0 [.str y21.fName, .int .i64 y21.fN], .cells 0 [.str y21.fName]]) .s ?_
   refine za fun Z32 hZ32 => ?_
   refine rc [1, 5, 6, 7, 61] fun K hK => ?_
   refine rnN 4 ?_;refine zh 4 (fun L τ => L = [(1, .op 0 0 0), (5, .os true 1 1 (v16 + 1) 0 (qb (l15 ++ [y21.fName])) false), (6, .int .i64 x17), (7, .op 2 0 0), (61, .bool ((decide (y21.fN < 0)) || (decide (2147483647 < y21.fN))))] ∧ τ = [.cells 0 (encGEnumeration a0), .cells (v16 + 1) (qe encS (l15 ++ [y21.fName])), .cells 0 [.str y21.fName, .int .i64 y21.fN], .cells 0 [.str y21.fName]]) ?_ ?_
   · refine yA 57 rfl (fun hg57 => ?_) (fun hg57 => ?_)
     · have t33 := eq_true hg57;refine rnN 4 ?_;refine zb ⟨rfl, _, _, ⟨rfl, rfl⟩, .p t33⟩
     have t34 := eq_false hg57;refine rnN 4 ?_;refine zb ⟨rfl, _, _, ⟨rfl, rfl⟩, .p t34⟩
   rintro _ _ ⟨rfl, rfl⟩;refine nkN hK ?_;refine zn (b := ((decide (y21.fN < 0)) || (decide (2147483647 < y21.fN)))) rfl (fun hc35 => ?_) (fun hc35 => ?_)
   · rw [if_pos hc35] at h;refine rgN [2] ?_;cases h;exact rtA
   rw [xN hc35] at h;apply zd;apply hZ32;refine rgN [1, 5, 6, 7, 8] ?_;apply ze;refine zq (fun m L τ => ∃ (k38 : Nat) (x36 : Int), m = 0 + k38 ∧ L = [(1, .op 0 0 0), (5, .os true 1 1 (v16 + 1) 0 (qb (l15 ++ [y21.fName])) false), (6, .int .i64 x17), (7, .op 2 0 0), (8, .int .i64 x36)] ∧ τ = [.cells 0 (encGEnumeration a0), .cells (v16 + 1) (qe encS (l15 ++ [y21.fName])), .cells 0 [.str y21.fName, .int .i64 y21.fN]] ∧ zZ.l38 a0 x17 l15 (zZ.l21 a0 q21) y21 k38 x36 = some r) _ ⟨rounds, 0, rfl, rfl, rfl, h⟩ (.t [0, 1, 2] false) ?_;rintro m L τ ⟨k38, x36, rfl, rfl, rfl, h⟩
   rcases k38 with _ | k38
   · cases h
   simp only [zZ.l38] at h
   refine za fun Z39 hZ39 => ?_
   refine rgN [1, 5, 6, 7, 8, 64] ?_;refine zx rfl (fun hc40 => ?_) (fun hc40 => ?_)
   · rw [if_pos hc40] at h;have t41 := eq_true hc40;apply zd;apply hZ39
     refine za fun Z42 hZ42 => ?_
     apply ze;obtain ⟨y43, hy43, h⟩ := bind_some h;have f44 := E82.idxS hy43;have f45 := E82.fldS (f := 3) rfl rfl hy43 (o := 1) (by decide)
     refine rd [1, 5, 6, 7, 8, 75] fun K hK => ?_
     refine DW.start (T := tab) [.any, .at [], .any, .any, .any, .at [], .any, .at [], .any] [] ?_;refine DW.runN tok 8 ?_;simp only [go_sem, qc, qa, qd, encGNamed, t41, f44, f45];refine DW.runN tok 1 ?_;simp only [go_sem, qc, qa];refine DW.fin tok (by decide +kernel) rfl ?_;simp only [zo, upd, qa, reduceIte, yG, xr];apply hK
     refine zx rfl (fun hc46 => ?_) (fun hc46 => ?_)
     · rw [if_pos hc46] at h;have t47 := eq_true hc46
       refine rg tok [2] fun K hK => ?_
       simp only [go_sem, qc, qa, t47];apply hK
       cases h;exact rtA
     rw [if_neg hc46] at h;have t48 := eq_false hc46;apply zd;apply hZ42
     refine rgE tok [1, 5, 6, 7, 8] fun K hK => ?_
     simp only [go_sem, qc, qa, t48];apply hK
     exact ⟨_, _, _, qr (0 + k38), ⟨k38, IntKind.i64.wrap (x36 + 1), rfl, rfl, rfl, h⟩, .s⟩
   rw [if_neg hc40] at h;have t49 := eq_false hc40;apply zv;apply hZ24
   refine rgE tok [1, 5, 6] fun K hK => ?_
   simp only [go_sem, qc, qa, hw21, t49];apply hK
   exact ⟨_, _, _, qr q21.length, ⟨p21 ++ [y21], q21, x17 + 1, l15 ++ [y21.fName], v16 + 1, rfl, rfl, rfl, hE'21, hi'21, h⟩, (.t [0, 1] false)⟩
 obtain ⟨hz10, hw10, hx10, hE'10, hi'10⟩ := zW hE10 hi10 hb10;simp only [zZ.l10] at h
 refine za fun Z50 hZ50 => ?_
 refine rg tok [1, 3, 4, 17] fun K hK => ?_
 simp only [go_sem, qc, qa, qd, hz10];apply hK
 refine zp rfl ?_;apply zd;apply hZ50
 refine za fun Z51 hZ51 => ?_
 apply ze
 refine rcE [1, 3, 4] fun K hK => ?_
 refine rnN 2 ?_;refine zh 8 (fun L τ => L = [(1, .op 0 0 0), (3, .bool x6), (4, .int .i64 x7), (29, .bool (x6 || (decide (y10.fN = 0))))] ∧ τ = [.cells 0 (encGEnumeration a0)]) ?_ ?_
 · refine zI (b := x6) 21 rfl (fun hg21 => ?_) (fun hg21 => ?_)
   · refine rnN 8 ?_;refine zb ⟨rfl, _, _, ⟨rfl, rfl⟩, .b hg21⟩
   have f52 := E82.idxS hx10;have f53 := E82.fldS (f := 3) rfl rfl hx10 (o := 1) (by decide);refine zj tok 8 ?_;simp only [go_sem, qc, qa, qd, encGNamed, f52, f53];refine zb ⟨rfl, _, _, ⟨rfl, rfl⟩, .b hg21⟩
 rintro _ _ ⟨rfl, rfl⟩;refine rnN 1 ?_;refine nkN hK ?_;apply hZ51
 refine rgE tok [1, 3, 4] fun K hK => ?_
 simp only [go_sem, qc, qa, hw10];apply hK
 exact ⟨_, _, _, qr q10.length, ⟨p10 ++ [y10], q10, x7 + 1, (x6 || (decide (y10.fN = 0))), rfl, rfl, rfl, hE'10, hi'10, h⟩, .s⟩
theorem zZ.ev (a0 : GEnumeration) (r : Int) (h : zZ a0 = some r) (σ : Store) : ACalls qh 83 [.agg (encGEnumeration a0)] σ (fun r' σ' => r' = .int .i64 r ∧ σ' = σ) :=
 (zZ.ok a0 r h).c σ
def yz.l17 : List GEnumeration → Int → List (List UInt8) → Option Int
 | [], x13, l11 => some 0
 | y17 :: q17, x13, l11 => (yo y17.fName l11).bind fun r24 => (if (!r24) = true then some 6 else (ZZ (qb l11 + 1) 16).bind fun _u28 => (zZ y17).bind fun r32 => (if r32 = 0 then ((yz.l17 q17) (x13 + 1) (l11 ++ [y17.fName])) else some r32))
def yz.l8 (a0 : GSchema) : List GMessage → Int → List (List UInt8) → Option Int
 | [], x4, l2 => (yz.l17 a0.fEnums 0 l2)
 | y8 :: q8, x4, l2 => (yo y8.fName l2).bind fun r41 => (if (!r41) = true then some 6 else (ZZ (qb l2 + 1) 16).bind fun _u45 => (zF a0 y8).bind fun r49 => (if r49 = 0 then ((yz.l8 a0 q8) (x4 + 1) (l2 ++ [y8.fName])) else some r49))
def yz (a0 : GSchema) : Option Int :=
 (yz.l8 a0 a0.fMessages 0 ([] : List (List UInt8)))
theorem yz.ok (a0 : GSchema) (r : Int) (h : yz a0 = some r) : ACalls qh 46 [.agg (encGSchema a0)] [] (fun r' _ => r' = .int .i64 r) := by
 refine zf (rs := [.tmp 2]) tok Tryz.func46 rfl Tryz.ntmps46 rfl Tryz.call46 (by simp) ?_;refine zl [(0, .agg (encGSchema a0))] ⟨rfl, trivial⟩ ?_;unfold yz at h
 refine rg tok [1] fun K hK => ?_
 simp only [go_sem, qc, qa, qd, reduceCtorEq, encGSchema];apply hK
 refine rgN [1, 3] ?_;refine wC 3 1 rfl ?_;refine zU (L := [(1, .op 0 0 0), (3, .os true 1 1 0 0 (qb ([] : List (List UInt8))) false)]) (τ := [.cells 0 (encGSchema a0), .cells 0 (qe encS ([] : List (List UInt8)))]) .s ?_
 refine za fun Z1 hZ1 => ?_
 refine rgN [1, 3, 4] ?_;apply ze
 refine xi 0 rfl fun hb8 => ?_
 replace hb8 : qb a0.fMessages ≤ 9223372036854775807 := hb8.2.1.1;refine zq (fun m L τ => ∃ (p8 q8 : List GMessage) (x4 : Int) (l2 : List (List UInt8)) (v3 : Nat), m = qb q8 ∧ L = [(1, .op 0 0 0), (3, .os true 1 1 v3 0 (qb l2) false), (4, .int .i64 x4)] ∧ τ = [.cells 0 (encGSchema a0), .cells v3 (qe encS l2)] ∧ a0.fMessages = p8 ++ q8 ∧ x4 = (qb p8 : Int) ∧ yz.l8 a0 q8 x4 l2 = some r) _ ⟨[], a0.fMessages, 0, ([] : List (List UInt8)), 0, rfl, rfl, rfl, rfl, rfl, h⟩ .s ?_;rintro m L τ ⟨p8, q8, x4, l2, v3, rfl, rfl, rfl, hE8, hi8, h⟩
 rcases q8 with _ | ⟨y8, q8⟩
 · have hz8 := yl hE8 hi8;simp only [yz.l8] at h
   refine za fun Z9 hZ9 => ?_
   refine rg tok [1, 3, 4, 12] fun K hK => ?_
   simp only [go_sem, qc, qa, qd, hz8];apply hK
   refine zm rfl ?_;apply zv;apply hZ1
   refine za fun Z10 hZ10 => ?_
   refine rgN [1, 3, 6] ?_;apply ze
   refine xi 0 rfl fun hb17 => ?_
   replace hb17 : qb a0.fEnums ≤ 9223372036854775807 := hb17.2.2.1.1;refine zq (fun m L τ => ∃ (p17 q17 : List GEnumeration) (x13 : Int) (l11 : List (List UInt8)) (v12 : Nat), m = qb q17 ∧ L = [(1, .op 0 0 0), (3, .os true 1 1 v12 0 (qb l11) false), (6, .int .i64 x13)] ∧ τ = [.cells 0 (encGSchema a0), .cells v12 (qe encS l11)] ∧ a0.fEnums = p17 ++ q17 ∧ x13 = (qb p17 : Int) ∧ yz.l17 q17 x13 l11 = some r) _ ⟨[], a0.fEnums, 0, l2, v3, rfl, rfl, rfl, rfl, rfl, h⟩ .s ?_;rintro m L τ ⟨p17, q17, x13, l11, v12, rfl, rfl, rfl, hE17, hi17, h⟩
   rcases q17 with _ | ⟨y17, q17⟩
   · have hz17 := yl hE17 hi17;simp only [yz.l17] at h
     refine za fun Z18 hZ18 => ?_
     refine rg tok [1, 3, 6, 47] fun K hK => ?_
     simp only [go_sem, qc, qa, qd, hz17];apply hK
     refine zm rfl ?_;apply zv;apply hZ10;refine rgN [2] ?_;cases h;exact rtA
   obtain ⟨hz17, hw17, hx17, hE'17, hi'17⟩ := zW hE17 hi17 hb17;simp only [yz.l17] at h
   refine za fun Z19 hZ19 => ?_
   refine rg tok [1, 3, 6, 47] fun K hK => ?_
   simp only [go_sem, qc, qa, qd, hz17];apply hK
   refine zp rfl ?_;apply zd;apply hZ19
   refine za fun Z20 hZ20 => ?_
   apply ze
   refine za fun Z21 hZ21 => ?_
   refine rc [1, 3, 6, 58] fun K hK => ?_
   have f22 := E23.idxS hx17;have f23 := E23.fldS0 (f := 9) rfl rfl hx17;obtain ⟨r24, hr24, h⟩ := bind_some h;refine zj tok 7 ?_;simp only [go_sem, qc, qa, qd, encGEnumeration, f22, f23];refine clN rfl rfl rfl (yo.ok y17.fName l11 r24 hr24).ld ?_;refine rnN 1 ?_;refine nkN hK ?_;refine zn (b := (!r24)) rfl (fun hc25 => ?_) (fun hc25 => ?_)
   · rw [if_pos hc25] at h;refine rgN [2] ?_;cases h;exact rtA
   rw [xN hc25] at h;apply zd;apply hZ21;have f26 := E23.idxS hx17;have f27 := E23.fldS0 (f := 9) rfl rfl hx17;obtain ⟨_u28, hu28, h⟩ := bind_some h;have gu28 := yd hu28;have f29 := (zr E98.len l11)
   refine rg tok [1, 3, 6] fun K hK => ?_
   simp only [go_sem, qc, qf, qa, qd, qq, zH, zX, q2, qW, true_and, ub, z6, zM, yg, encGEnumeration, f26, f27, gu28, f29, yv, q9, qY, AV.one, qU, qz, qj, ql, qm, qE];apply hK
   refine zU (L := [(1, .op 0 0 0), (3, .os true 1 1 (v12 + 1) 0 (qb (l11 ++ [y17.fName])) false), (6, .int .i64 x13)]) (τ := [.cells 0 (encGSchema a0), .cells (v12 + 1) (qe encS (l11 ++ [y17.fName])), .cells 0 [.str y17.fName]]) .s ?_
   refine rc [1, 3, 6, 7] fun K hK => ?_
   have f30 := E23.idxS hx17;have f31 := E23.loadS rfl rfl hx17;obtain ⟨r32, hr32, h⟩ := bind_some h;refine zj tok 5 ?_;simp only [go_sem, qc, qa, qd, encGEnumeration, f30, f31];refine clN rfl rfl rfl (zZ.ev y17 r32 hr32 _) ?_;refine rnN 1 ?_;refine nkN hK ?_;refine rgN [1, 3, 6, 7, 75] ?_;refine zx rfl (fun hc33 => ?_) (fun hc33 => ?_)
   · rw [if_neg hc33] at h;have t34 := eq_false hc33
     refine rg tok [2] fun K hK => ?_
     simp only [go_sem, qc, qa, t34];apply hK
     cases h;exact rtA
   rw [if_pos hc33] at h;have t35 := eq_true hc33;apply zd;apply hZ20
   refine rgE tok [1, 3, 6] fun K hK => ?_
   simp only [go_sem, qc, qa, hw17, t35];apply hK
   exact ⟨_, _, _, qr q17.length, ⟨p17 ++ [y17], q17, x13 + 1, l11 ++ [y17.fName], v12 + 1, rfl, rfl, rfl, hE'17, hi'17, h⟩, (.t [0, 1] false)⟩
 obtain ⟨hz8, hw8, hx8, hE'8, hi'8⟩ := zW hE8 hi8 hb8;simp only [yz.l8] at h
 refine za fun Z36 hZ36 => ?_
 refine rg tok [1, 3, 4, 12] fun K hK => ?_
 simp only [go_sem, qc, qa, qd, hz8];apply hK
 refine zp rfl ?_;apply zd;apply hZ36
 refine za fun Z37 hZ37 => ?_
 apply ze
 refine za fun Z38 hZ38 => ?_
 refine rc [1, 3, 4, 23] fun K hK => ?_
 have f39 := E22.idxS hx8;have f40 := E22.fldS0 (f := 9) rfl rfl hx8;obtain ⟨r41, hr41, h⟩ := bind_some h;refine zj tok 7 ?_;simp only [go_sem, qc, qa, qd, encGMessage, f39, f40];refine clN rfl rfl rfl (yo.ok y8.fName l2 r41 hr41).ld ?_;refine rnN 1 ?_;refine nkN hK ?_;refine zn (b := (!r41)) rfl (fun hc42 => ?_) (fun hc42 => ?_)
 · rw [if_pos hc42] at h;refine rgN [2] ?_;cases h;exact rtA
 rw [xN hc42] at h;apply zd;apply hZ38;have f43 := E22.idxS hx8;have f44 := E22.fldS0 (f := 9) rfl rfl hx8;obtain ⟨_u45, hu45, h⟩ := bind_some h;have gu45 := yd hu45;have f46 := (zr E98.len l2)
 refine rg tok [1, 3, 4] fun K hK => ?_
 simp only [go_sem, qc, qf, qa, qd, qq, zH, zX, q2, qW, true_and, ub, z6, zM, yg, encGMessage, f43, f44, gu45, f46, yv, q9, qY, AV.one, qU, qz, qj, ql, qm, qE];apply hK
 refine zU (L := [(1, .op 0 0 0), (3, .os true 1 1 (v3 + 1) 0 (qb (l2 ++ [y8.fName])) false), (4, .int .i64 x4)]) (τ := [.cells 0 (encGSchema a0), .cells (v3 + 1) (qe encS (l2 ++ [y8.fName])), .cells 0 [.str y8.fName]]) .s ?_;have f47 := E22.idxS hx8;have f48 := E22.loadS rfl rfl hx8;obtain ⟨r49, hr49, h⟩ := bind_some h
 refine rd [1, 3, 4, 5] fun K hK => ?_
 refine DW.start (T := tab) [.at [], .any, .at [], .any, .any, .at [], .eff, .any] [] ?_;refine DW.runN tok 6 ?_;simp only [go_sem, qc, qf, qa, qd, encGMessage, f47, f48];refine DW.call rfl rfl rfl (zF.ev a0 y8 r49 hr49 _) ?_;refine DW.runN tok 1 ?_;simp only [go_sem, qc, qa];refine DW.fin tok (by decide +kernel) rfl ?_;simp only [zo, upd, qa, reduceIte, yG, xr];apply hK
 refine rgN [1, 3, 4, 5, 41] ?_;refine zx rfl (fun hc50 => ?_) (fun hc50 => ?_)
 · rw [if_neg hc50] at h;have t51 := eq_false hc50
   refine rg tok [2] fun K hK => ?_
   simp only [go_sem, qc, qa, t51];apply hK
   cases h;exact rtA
 rw [if_pos hc50] at h;have t52 := eq_true hc50;apply zd;apply hZ37
 refine rgE tok [1, 3, 4] fun K hK => ?_
 simp only [go_sem, qc, qa, hw8, t52];apply hK
 exact ⟨_, _, _, qr q8.length, ⟨p8 ++ [y8], q8, x4 + 1, l2 ++ [y8.fName], v3 + 1, rfl, rfl, rfl, hE'8, hi'8, h⟩, (.t [0, 1] false)⟩
end
end Go.Proofs.YtaddlmlpeghonaaGreatDoor
