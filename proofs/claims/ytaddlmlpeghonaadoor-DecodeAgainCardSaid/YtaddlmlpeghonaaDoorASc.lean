/- Parts of the proof, cut down to what it needs. -/
import Derived.Test.YtaddlmlpeghonaaDoorAFB
set_option linter.constructorNameAsVariable false
set_option linter.unusedSimpArgs false
set_option linter.unusedVariables false
open List renaming length → lN, flatMap → fM, length_append → lP, length_cons → lC, length_nil → lZ, mem_cons_of_mem → mO, mem_cons_self → mS, append_assoc → aA, getD_eq_getElem?_getD → gG, append_nil → aN, map_nil → mN, map_cons → mC, nil_append → nA, flatMap_append → fA, flatMap_nil → fZ, flatMap_cons → fC, mem_append → mA, cons_append → cA, pairwise_cons → pC, length_map → lM, drop_zero → dZ, getElem?_append_right → gR, getElem?_append_left → gL, map_append → mP, length_eq_zero_iff → lI, mem_cons → mI
open Option renaming bind_some → bS, some.injEq → sI
open Nat renaming reduceLT → rL, reduceLeDiff → rD, reduceEqDiff → rE, reduceAdd → rA, reduceMul → rM, reduceSub → rS, zero_add → nZ, le_refl → nR, lt_succ_self → nS
section
set_option maxRecDepth 4000
set_option maxHeartbeats 1000000
namespace Go.Proofs.YtaddlmlpeghonaaDoor
open AM
theorem slices_Clone_Value.own (a0 r : List GValueValue) (h : slices_Clone_Value a0 = some r) : ACalls Tryd.prog 125 [.ds true (fM encGValueValue a0) (lN a0) false] [] (fun r' σ' => r' = .os true 1 0 0 0 (lN r) false ∧ σ' = [.cells 0 (fM encGValueValue r)]) := by
 obtain ⟨_u, hu, h⟩ := bind_some h
 have gu := zQ hu
 obtain rfl := Option.some.inj h
 have f1 := fun nl tt σ => zi1 E155.len a0 nl tt σ
 have f2 := zw E155.len a0
 have f3 := zi2 encGValueValue a0
 refine zK5 (rs := [.tmp 2]) tok Tryd.func125 rfl Tryd.ntmps125 rfl Tryd.call125 (by simp) ?_
 refine zp [(0, .ds true (fM encGValueValue a0) (lN a0) false)] ⟨rfl, trivial⟩ ?_
 refine rg tok [0] fun K hK => ?_
 simp only [go_sem, rL, reduceCtorEq]
 refine hK _ _ ?_
 refine ze fun Z1 hZ1 => ?_
 refine rc [0, 4] fun K hK => ?_
 refine za tok 1 ?_
 simp only [go_sem, rL]
 refine zq4 tok rfl rfl rfl rfl rfl rfl fun b hnil => ?_
 have hb : b = true → a0 = [] := fun hb => by
  have := hnil hb
  simp only [zK, go_sem, reduceCtorEq] at this
  exact List.eq_nil_of_length_eq_zero this
 clear hnil
 refine zb ?_
 simp only [zd, updO, upd, rE, reduceIte, zl, zm]
 refine hK _ _ ?_
 cases b
 · refine zt rfl ?_
   refine zi ?_
   refine hZ1 _ _ ?_
   refine rg tok [2] fun K hK => ?_
   by_cases h0 : lN a0 = 0
   · obtain rfl := List.eq_nil_of_length_eq_zero h0
     simp only [go_sem, rL, rE, reduceCtorEq, zB, zG, List.range_zero, Nat.zero_le, zJ, zF, zK, zD, fZ, lZ, Nat.zero_mul, List.all_nil]
     refine hK _ _ ?_
     refine zj ?_
     simp only [retQ, zT, zX, zm1, exists_eq_left', go_sem]
     refine .inl ⟨0, true, by simp, ?_, ?_⟩
     · first | rfl | (simp only [go_sem, rL, rD, rE, rA, rM, rS, reduceIte, reduceCtorEq, zT1, zK1, if_true] <;> rfl)
     · first | rfl | (simp only [go_sem, rL, rD, rE, rA, rM, rS, reduceIte, reduceCtorEq, zC2, zc5, zl2, zE2, zD2, mN] <;> rfl)
   · have h1 := eq_false h0
     simp only [go_sem, rL, rE, reduceCtorEq, zB, zG, List.range_zero, Nat.zero_le, zJ, zF, zK, f1, f3, h1, gu, zZ, mN, nA, Nat.zero_mul]
     refine hK _ _ ?_
     refine zj ?_
     simp only [retQ, zT, zX, zm1, exists_eq_left', go_sem, rA]
     refine .inl ⟨1, false, by simp, ?_, ?_⟩
     · first | rfl | (simp only [go_sem, rL, rD, rE, rA, rM, rS, reduceIte, reduceCtorEq, zT1, zK1, if_true] <;> rfl)
     · first | rfl | (simp only [go_sem, zC2, zl2, zE2, zD2, zA] <;> rfl)
 · obtain rfl := hb rfl
   refine zv rfl ?_
   refine rg tok [2] fun K hK => ?_
   simp only [go_sem, rL, rE, reduceCtorEq]
   refine hK _ _ ?_
   refine zj ?_
   simp only [retQ, zT, zX, zm1, exists_eq_left', go_sem]
   refine .inr ?_
   first | rfl | (simp only [go_sem, rL, rD, rE, rA, rM, rS, reduceIte, reduceCtorEq, zW2, mN, Bool.or_true, Bool.or_false, Bool.not_false, Bool.and_true] <;> rfl)
def value_Node_Get.l4 (a1 : Int) : List GValueEntry → Int → Option (List GValueValue)
 | [], x2 => some ([] : List GValueValue)
 | y4 :: q4, x2 => (if y4.ftag = a1 then (slices_Clone_Value y4.fl).bind fun r12 => some r12 else ((value_Node_Get.l4 a1 q4) (x2 + 1)))
def value_Node_Get (a0 : GValueNode) (a1 : Int) : Option (List GValueValue) :=
 (value_Node_Get.l4 a1 a0.fentries 0)
theorem value_Node_Get.ok (a0 : GValueNode) (a1 : Int) (r : List GValueValue) (h : value_Node_Get a0 a1 = some r) : ACalls Tryd.prog 106 [.dp (encGValueNode a0) 0, .int .i64 a1] [] (fun r' _ => r' = .ds true (fM encGValueValue r) (lN r) false) := by
 refine zn (rs := [.tmp 4]) tok Tryd.func106 rfl Tryd.ntmps106 rfl Tryd.call106 (by simp) ?_
 refine zp [(0, .dp (encGValueNode a0) 0), (1, .int .i64 a1)] ⟨rfl, rfl, trivial⟩ ?_
 unfold value_Node_Get at h
 refine rg tok [0, 1] fun K hK => ?_
 simp only [go_sem, rL, rE, reduceCtorEq]
 refine hK _ _ ?_
 refine ze fun Z1 hZ1 => ?_
 refine rg tok [1, 10, 11, 12] fun K hK => ?_
 simp only [go_sem, rL, rE, rA, reduceCtorEq, encGValueNode, zc4]
 refine hK _ _ ?_
 refine zk ?_
 refine zO 10 fun hb4 => ?_
 replace hb4 : lN a0.fentries ≤ 9223372036854775807 := hb4.1
 refine zy (fun m L τ => ∃ (p4 q4 : List GValueEntry) (x2 : Int), m = lN q4 ∧ L = ([(1, .int .i64 a1), (10, .ds true (fM encGValueEntry a0.fentries) (lN a0.fentries) false), (11, .int .i64 (lN a0.fentries : Int)), (12, .int .i64 x2)] : List (Nat × AV)) ∧ τ = ([] : Store) ∧ a0.fentries = p4 ++ q4 ∧ x2 = (lN p4 : Int) ∧ value_Node_Get.l4 a1 q4 x2 = some r) _ ⟨[], a0.fentries, 0, rfl, rfl, rfl, rfl, rfl, h⟩ .s ?_
 rintro m L τ ⟨p4, q4, x2, rfl, rfl, rfl, hE4, hi4, h⟩
 rcases q4 with _ | ⟨y4, q4⟩
 · have hz4 := zP hE4 hi4
   simp only [value_Node_Get.l4] at h
   refine rg tok [1, 10, 11, 12, 13] fun K hK => ?_
   simp only [go_sem, rL, rE, hz4]
   refine hK _ _ ?_
   refine ze fun Z5 hZ5 => ?_
   refine zt rfl ?_
   refine zx ?_
   refine hZ1 _ _ ?_
   refine rg tok [4] fun K hK => ?_
   simp only [go_sem, rL, rE]
   refine hK _ _ ?_
   refine zj ?_
   obtain rfl := Option.some.inj h
   exact retA
 · obtain ⟨hz4, hw4, hx4, hE'4, hi'4⟩ := zI hE4 hi4 hb4
   simp only [value_Node_Get.l4] at h
   refine rg tok [1, 10, 11, 12, 13] fun K hK => ?_
   simp only [go_sem, rL, rE, hz4]
   refine hK _ _ ?_
   refine ze fun Z6 hZ6 => ?_
   refine zv rfl ?_
   refine zi ?_
   refine hZ6 _ _ ?_
   refine ze fun Z7 hZ7 => ?_
   refine zk ?_
   have f8 := E172.idxS hx4
   have f9 := E172.loadS rfl rfl hx4
   refine rg tok [1, 6, 10, 11, 12] fun K hK => ?_
   simp only [go_sem, rL, rD, rE, rA, cellsGValueEntry, zc1, f8, f9]
   refine hK _ _ ?_
   refine rg tok [1, 6, 10, 11, 12, 19] fun K hK => ?_
   simp only [go_sem, rL, rE, rA]
   refine hK _ _ ?_
   refine zz rfl (fun hc10 => ?_) (fun hc10 => ?_)
   · rw [if_pos hc10] at h
     have t11 := eq_true hc10
     refine rc [4] fun K hK => ?_
     obtain ⟨r12, hr12, h⟩ := bind_some h
     refine za tok 2 ?_
     simp only [go_sem, rL, rE, rA, t11]
     refine zh rfl rfl rfl (@id (ACalls Tryd.prog 125 [.ds true (fM encGValueValue y4.fl) (lN y4.fl) false] [.cells 0 [.int .i64 y4.ftag, .ds true (fM encGValueValue y4.fl) (lN y4.fl) false]] (fun r' σ' => r' = .os true 1 1 0 0 (lN r12) false ∧ σ' = [.cells 0 [.int .i64 y4.ftag, .ds true (fM encGValueValue y4.fl) (lN y4.fl) false], .cells 0 (fM encGValueValue r12)])) ((slices_Clone_Value.own y4.fl r12 hr12).ownAt0 (by simp only [push_cast]) (by simp only [push_cast]) _)) ?_
     rintro _ _ ⟨rfl, rfl⟩
     refine za tok 1 ?_
     simp only [go_sem, rL, rE]
     refine zb ?_
     simp only [zd, upd, rE, reduceIte, zl, zm]
     refine hK _ _ ?_
     refine zj ?_
     obtain rfl := Option.some.inj h
     exact retA
   · rw [if_neg hc10] at h
     have t13 := eq_false hc10
     refine zi ?_
     refine hZ7 _ _ ?_
     refine rgE tok [1, 10, 11, 12] fun K hK => ?_
     simp only [go_sem, rL, rE, hw4, t13]
     refine hK _ _ ?_
     exact ⟨_, _, _, nS q4.length, ⟨p4 ++ [y4], q4, x2 + 1, rfl, rfl, rfl, hE'4, hi'4, h⟩, (.t [] false)⟩
theorem value_Node_Get.ev (a0 : GValueNode) (a1 : Int) (r : List GValueValue) (h : value_Node_Get a0 a1 = some r) (σ : Store) : ACalls Tryd.prog 106 [.dp (encGValueNode a0) 0, .int .i64 a1] σ (fun r' σ' => r' = .ds true (fM encGValueValue r) (lN r) false ∧ σ' = σ) :=
 (value_Node_Get.ok a0 a1 r h).c σ
def value_Value_AsNum (a0 : GValueValue) : Int × Bool :=
 (match a0 with | .nil => (0, false) | .num n2 => (n2, true) | .str s2 => (0, false) | .node e2 r2 => (0, false))
theorem value_Value_AsNum.ok (a0 : GValueValue) (r : Int × Bool) (h : value_Value_AsNum a0 = r) : ACalls Tryd.prog 130 [.agg (encGValueValue a0)] [] (fun r' _ => r' = .tup [.int .i64 r.1, .bool r.2]) := by
 refine zn (rs := [.tmp 2, .tmp 3]) tok Tryd.func130 rfl Tryd.ntmps130 rfl Tryd.call130 (by simp) ?_
 refine zp [(0, .agg (encGValueValue a0))] ⟨rfl, trivial⟩ ?_
 unfold value_Value_AsNum at h
 have f1 := za2 a0
 unfold AV.one at f1
 refine rg tok [1] fun K hK => ?_
 simp only [go_sem, rL, rE, reduceCtorEq, encGValueValue, f1]
 refine hK _ _ ?_
 rcases a0 with _ | n2 | s2 | ⟨e2, r2⟩
 · dsimp only at h
   try simp only [zS4]
   refine rg tok [4, 5] fun K hK => ?_
   simp only [go_sem, rL, rE, rA, zd1, zf1, TypeDesc.isIface]
   refine hK _ _ ?_
   refine rg tok [2, 3] fun K hK => ?_
   simp only [go_sem, rL, rE]
   refine hK _ _ ?_
   refine zj ?_
   obtain rfl := h
   exact retA
 · dsimp only at h
   try simp only [zR4]
   refine rg tok [4, 5] fun K hK => ?_
   simp only [go_sem, rL, rE, rA, zd1, zf1, TypeDesc.isIface]
   refine hK _ _ ?_
   refine rg tok [2, 3] fun K hK => ?_
   simp only [go_sem, rL, rE]
   refine hK _ _ ?_
   refine zj ?_
   obtain rfl := h
   exact retA
 · dsimp only at h
   try simp only [zQ4]
   refine rg tok [4, 5] fun K hK => ?_
   simp only [go_sem, rL, rE, rA, zd1, zf1, TypeDesc.isIface]
   refine hK _ _ ?_
   refine rg tok [2, 3] fun K hK => ?_
   simp only [go_sem, rL, rE]
   refine hK _ _ ?_
   refine zj ?_
   obtain rfl := h
   exact retA
 · dsimp only at h
   try simp only [zr3]
   refine rg tok [4, 5] fun K hK => ?_
   simp only [go_sem, rL, rE, rA, zd1, zf1, TypeDesc.isIface]
   refine hK _ _ ?_
   refine rg tok [2, 3] fun K hK => ?_
   simp only [go_sem, rL, rE]
   refine hK _ _ ?_
   refine zj ?_
   obtain rfl := h
   exact retA
theorem value_Value_AsNum.ev (a0 : GValueValue) (r : Int × Bool) (h : value_Value_AsNum a0 = r) (σ : Store) : ACalls Tryd.prog 130 [.agg (encGValueValue a0)] σ (fun r' σ' => r' = .tup [.int .i64 r.1, .bool r.2] ∧ σ' = σ) :=
 (value_Value_AsNum.ok a0 r h).c σ
def value_Value_AsStr (a0 : GValueValue) : List UInt8 × Bool :=
 (match a0 with | .nil => ([], false) | .num n2 => ([], false) | .str s2 => (s2, true) | .node e2 r2 => ([], false))
theorem value_Value_AsStr.ok (a0 : GValueValue) (r : List UInt8 × Bool) (h : value_Value_AsStr a0 = r) : ACalls Tryd.prog 131 [.agg (encGValueValue a0)] [] (fun r' _ => r' = .tup [.str r.1, .bool r.2]) := by
 refine zn (rs := [.tmp 2, .tmp 3]) tok Tryd.func131 rfl Tryd.ntmps131 rfl Tryd.call131 (by simp) ?_
 refine zp [(0, .agg (encGValueValue a0))] ⟨rfl, trivial⟩ ?_
 unfold value_Value_AsStr at h
 have f1 := za2 a0
 unfold AV.one at f1
 refine rg tok [1] fun K hK => ?_
 simp only [go_sem, rL, rE, reduceCtorEq, encGValueValue, f1]
 refine hK _ _ ?_
 rcases a0 with _ | n2 | s2 | ⟨e2, r2⟩
 · dsimp only at h
   try simp only [zS4]
   refine rg tok [4, 5] fun K hK => ?_
   simp only [go_sem, rL, rE, rA, zd1, zf1, TypeDesc.isIface]
   refine hK _ _ ?_
   refine rg tok [2, 3] fun K hK => ?_
   simp only [go_sem, rL, rE]
   refine hK _ _ ?_
   refine zj ?_
   obtain rfl := h
   exact retA
 · dsimp only at h
   try simp only [zR4]
   refine rg tok [4, 5] fun K hK => ?_
   simp only [go_sem, rL, rE, rA, zd1, zf1, TypeDesc.isIface]
   refine hK _ _ ?_
   refine rg tok [2, 3] fun K hK => ?_
   simp only [go_sem, rL, rE]
   refine hK _ _ ?_
   refine zj ?_
   obtain rfl := h
   exact retA
 · dsimp only at h
   try simp only [zQ4]
   refine rg tok [4, 5] fun K hK => ?_
   simp only [go_sem, rL, rE, rA, zd1, zf1, TypeDesc.isIface]
   refine hK _ _ ?_
   refine rg tok [2, 3] fun K hK => ?_
   simp only [go_sem, rL, rE]
   refine hK _ _ ?_
   refine zj ?_
   obtain rfl := h
   exact retA
 · dsimp only at h
   try simp only [zr3]
   refine rg tok [4, 5] fun K hK => ?_
   simp only [go_sem, rL, rE, rA, zd1, zf1, TypeDesc.isIface]
   refine hK _ _ ?_
   refine rg tok [2, 3] fun K hK => ?_
   simp only [go_sem, rL, rE]
   refine hK _ _ ?_
   refine zj ?_
   obtain rfl := h
   exact retA
theorem value_Value_AsStr.ev (a0 : GValueValue) (r : List UInt8 × Bool) (h : value_Value_AsStr a0 = r) (σ : Store) : ACalls Tryd.prog 131 [.agg (encGValueValue a0)] σ (fun r' σ' => r' = .tup [.str r.1, .bool r.2] ∧ σ' = σ) :=
 (value_Value_AsStr.ok a0 r h).c σ
def encode_kept (a0 : GValueValue) : Option GValueValue :=
 bnd (value_Value_AsNum a0) fun r3 => (if r3.2 = true then some (GValueValue.num r3.1) else bnd (value_Value_AsStr a0) fun r6 => (if r6.2 = true then some (GValueValue.str r6.1) else (value_Value_MustNode a0).bind fun r8 => some (GValueValue.node r8.fentries r8.frest)))
theorem encode_kept.ok (a0 : GValueValue) (r : GValueValue) (h : encode_kept a0 = some r) : ACalls Tryd.prog 126 [.agg (encGValueValue a0)] [] (fun r' _ => r' = anyV r) := by
 refine zn (rs := [.tmp 2]) tok Tryd.func126 rfl Tryd.ntmps126 rfl Tryd.call126 (by simp) ?_
 refine zp [(0, .agg (encGValueValue a0))] ⟨rfl, trivial⟩ ?_
 unfold encode_kept at h
 have f1 := za2 a0
 unfold AV.one at f1
 refine rg tok [1] fun K hK => ?_
 simp only [go_sem, rL, rE, reduceCtorEq, encGValueValue, f1]
 refine hK _ _ ?_
 refine ze fun Z2 hZ2 => ?_
 refine rc [1, 3, 4] fun K hK => ?_
 obtain ⟨r3, hr3, h⟩ := zE h
 refine za tok 1 ?_
 simp only [go_sem, rL, rD]
 refine zh rfl rfl rfl (value_Value_AsNum.ev a0 r3 hr3 _) ?_
 rintro _ _ ⟨rfl, rfl⟩
 refine za tok 5 ?_
 simp only [go_sem, rL, rE, rA]
 refine zb ?_
 simp only [zd, upd, rE, reduceIte, zl, zm]
 refine hK _ _ ?_
 refine rg tok [1, 3, 12] fun K hK => ?_
 simp only [go_sem, rL, rE]
 refine hK _ _ ?_
 refine zq (b := r3.2) rfl (fun hc4 => ?_) (fun hc4 => ?_)
 · rw [if_pos hc4] at h
   refine rg tok [2] fun K hK => ?_
   simp only [go_sem, rL, rE]
   refine hK _ _ ?_
   refine zj ?_
   obtain rfl := Option.some.inj h
   exact retA
 · rw [if_F hc4] at h
   refine zi ?_
   refine hZ2 _ _ ?_
   refine ze fun Z5 hZ5 => ?_
   refine rc [1, 5, 6] fun K hK => ?_
   obtain ⟨r6, hr6, h⟩ := zE h
   refine za tok 1 ?_
   simp only [go_sem, rL, rD, rE]
   refine zh rfl rfl rfl (value_Value_AsStr.ev a0 r6 hr6 _) ?_
   rintro _ _ ⟨rfl, rfl⟩
   refine za tok 5 ?_
   simp only [go_sem, rL, rE, rA]
   refine zb ?_
   simp only [zd, upd, rE, reduceIte, zl, zm]
   refine hK _ _ ?_
   refine rg tok [1, 5, 20] fun K hK => ?_
   simp only [go_sem, rL, rE]
   refine hK _ _ ?_
   refine zq (b := r6.2) rfl (fun hc7 => ?_) (fun hc7 => ?_)
   · rw [if_pos hc7] at h
     refine rg tok [2] fun K hK => ?_
     simp only [go_sem, rL, rE]
     refine hK _ _ ?_
     refine zj ?_
     obtain rfl := Option.some.inj h
     exact retA
   · rw [if_F hc7] at h
     refine zi ?_
     refine hZ5 _ _ ?_
     refine rc [2] fun K hK => ?_
     obtain ⟨r8, hr8, h⟩ := bind_some h
     refine za tok 1 ?_
     simp only [go_sem, rL, rD, rE]
     refine zh rfl rfl rfl (value_Value_MustNode.ev a0 r8 hr8 _) ?_
     rintro _ _ ⟨rfl, rfl⟩
     refine za tok 2 ?_
     simp only [go_sem, rL, rE]
     refine zb ?_
     simp only [zd, upd, rE, reduceIte, zl, zm]
     refine hK _ _ ?_
     refine zj ?_
     obtain rfl := Option.some.inj h
     exact retA
theorem encode_kept.ev (a0 : GValueValue) (r : GValueValue) (h : encode_kept a0 = some r) (σ : Store) : ACalls Tryd.prog 126 [.agg (encGValueValue a0)] σ (fun r' σ' => r' = anyV r ∧ σ' = σ) :=
 (encode_kept.ok a0 r h).c σ
def vint_Put.l9 : Nat → List UInt8 → Int → Option (List UInt8)
 | 0, _, _ => none
 | k9 + 1, l3, x5 => (if 128 ≤ x5 then (room (lN l3 + 1) 1).bind fun _u14 => ((vint_Put.l9 k9) (l3 ++ [UInt8.ofNat (Int.toNat (IntKind.u8.wrap ((BitVec.toNat (BitVec.ofInt 8 (IntKind.u8.wrap x5) ||| BitVec.ofInt 8 128) : Nat) : Int)))]) (Int.fdiv x5 (2 ^ (min (Int.toNat 7) 64)))) else (room (lN l3 + 1) 1).bind fun _u18 => some (l3 ++ [UInt8.ofNat (Int.toNat (IntKind.u8.wrap x5))]))
def vint_Put (a0 : List UInt8) (a1 : Int) : Option (List UInt8) :=
 (if 128 ≤ a1 then (room (lN a0 + 1) 1).bind fun _u24 => (vint_Put.l9 rounds (a0 ++ [UInt8.ofNat (Int.toNat (IntKind.u8.wrap ((BitVec.toNat (BitVec.ofInt 8 (IntKind.u8.wrap a1) ||| BitVec.ofInt 8 128) : Nat) : Int)))]) (Int.fdiv a1 (2 ^ (min (Int.toNat 7) 64)))) else (room (lN a0 + 1) 1).bind fun _u28 => some (a0 ++ [UInt8.ofNat (Int.toNat (IntKind.u8.wrap a1))]))
theorem vint_Put.own (a0 : List UInt8) (a1 : Int) (r : List UInt8) (h : vint_Put a0 a1 = some r) : ACalls Tryd.prog 38 [.ds true (fM encB a0) (lN a0) false, .int .u64 a1] [] (fun r' σ' => r' = .os true 1 0 0 0 (lN r) false ∧ σ' = [.cells 0 (fM encB r)]) := by
 refine ACalls.own0 (by simp only [push_cast]) ?_
 refine zT2 (rs := [.tmp 4]) tok Tryd.func38 rfl Tryd.ntmps38 rfl Tryd.call38 (by simp) ?_
 refine zp [(0, .ds true (fM encB a0) (lN a0) false), (1, .int .u64 a1)] ⟨rfl, rfl, trivial⟩ ?_
 unfold vint_Put at h
 refine rg tok [0, 1] fun K hK => ?_
 simp only [go_sem, rL, rE, reduceCtorEq]
 refine hK _ _ ?_
 have f1 := E35.sl_tight a0 .i64 .i64
 refine rg tok [0, 1] fun K hK => ?_
 simp only [go_sem, rL, rE, reduceCtorEq, f1]
 refine hK _ _ ?_
 refine ze fun Z2 hZ2 => ?_
 refine zk ?_
 refine awp_loopS1 (fun m L τ => ∃ (k9 : Nat) (l3 : List UInt8) (x5 : Int) (v4 : Nat), m = 0 + k9 ∧ L = ([(0, .os true 1 0 v4 0 (lN l3) false), (1, .int .u64 x5)] : List (Nat × AV)) ∧ τ = ([.cells v4 (fM encB l3)] : Store) ∧ vint_Put.l9 k9 l3 x5 = some r) (rounds + 1) ?_ ?_
 · refine ze fun Z20 hZ20 => ?_
   refine rg tok [0, 1, 12] fun K hK => ?_
   simp only [go_sem, rL, rE, reduceCtorEq]
   refine hK _ _ ?_
   refine zz rfl (fun hc21 => ?_) (fun hc21 => ?_)
   · rw [if_pos hc21] at h
     have t22 := eq_true hc21
     refine zi ?_
     refine hZ20 _ _ ?_
     refine zk ?_
     have f23 := zo1 (T := tab) (src := 85) (dst := 5) rfl rfl rfl
     obtain ⟨_u24, hu24, h⟩ := bind_some h
     have gu24 := zQ hu24
     have f25 := app_tight E35.len a0 (m := 1) (by decide)
     refine rg tok [0, 1] fun K hK => ?_
     simp only [go_sem, rL, rD, rE, rM, reduceCtorEq, zB, zG, List.range_succ, List.range_zero, true_and, Nat.reduceMod, zJ, zK, t22, f23, gu24, f25, zZ, List.all_nil, List.all_cons, AV.one, Bool.and_self, nA, lC, lZ, nZ, cA]
     refine hK _ _ ?_
     refine zM (L := [(0, .os true 1 1 0 0 (lN (a0 ++ [UInt8.ofNat (Int.toNat (IntKind.u8.wrap ((BitVec.toNat (BitVec.ofInt 8 (IntKind.u8.wrap a1) ||| BitVec.ofInt 8 128) : Nat) : Int)))])) false), (1, .int .u64 a1)]) (τ := [.cells 0 [.int .u8 (IntKind.u8.wrap ((BitVec.toNat (BitVec.ofInt 8 (IntKind.u8.wrap a1) ||| BitVec.ofInt 8 128) : Nat) : Int))], .cells 0 (fM encB (a0 ++ [UInt8.ofNat (Int.toNat (IntKind.u8.wrap ((BitVec.toNat (BitVec.ofInt 8 (IntKind.u8.wrap a1) ||| BitVec.ofInt 8 128) : Nat) : Int)))]))]) (.same (by first | exact ⟨rfl, rfl, trivial⟩ | rfl | (simp only [go_sem, reduceCtorEq, Fits, lP, lC, lZ, nZ, and_self] <;> rfl)) (by first | exact ⟨rfl, rfl, trivial⟩ | rfl | (simp only [go_sem, encB, fA, fC, fZ, aN, u8_wrap] <;> rfl))) ?_
     refine rgE tok [0, 1] fun K hK => ?_
     simp only [go_sem, rL, rE, reduceCtorEq, zB2, Int.reduceLT]
     refine hK _ _ ?_
     exact ⟨_, _, _, (Nat.lt_succ_of_le (Nat.le_of_eq (nZ rounds))), ⟨rounds, a0 ++ [UInt8.ofNat (Int.toNat (IntKind.u8.wrap ((BitVec.toNat (BitVec.ofInt 8 (IntKind.u8.wrap a1) ||| BitVec.ofInt 8 128) : Nat) : Int)))], Int.fdiv a1 (2 ^ (min (Int.toNat 7) 64)), 0, rfl, rfl, rfl, h⟩, (.t [1] false)⟩
   · rw [if_neg hc21] at h
     have t26 := eq_false hc21
     refine zx ?_
     refine hZ2 _ _ ?_
     have f27 := zo1 (T := tab) (src := 85) (dst := 5) rfl rfl rfl
     obtain ⟨_u28, hu28, h⟩ := bind_some h
     have gu28 := zQ hu28
     have f29 := app_tight E35.len a0 (m := 1) (by decide)
     refine rg tok [4] fun K hK => ?_
     simp only [go_sem, rL, rD, rE, rM, reduceCtorEq, zB, zG, List.range_succ, List.range_zero, true_and, Nat.reduceMod, zJ, zK, t26, f27, gu28, f29, zZ, List.all_nil, List.all_cons, AV.one, Bool.and_self, nA, lC, lZ, nZ, cA]
     refine hK _ _ ?_
     refine zM (L := [(4, .os true 1 1 0 0 (lN (a0 ++ [UInt8.ofNat (Int.toNat (IntKind.u8.wrap a1))])) false)]) (τ := [.cells 0 [.int .u8 (IntKind.u8.wrap a1)], .cells 0 (fM encB (a0 ++ [UInt8.ofNat (Int.toNat (IntKind.u8.wrap a1))]))]) (.same (by first | exact ⟨rfl, trivial⟩ | rfl | (simp only [go_sem, Fits, lP, lC, lZ, nZ, and_self] <;> rfl)) (by first | exact ⟨rfl, trivial⟩ | rfl | (simp only [go_sem, encB, fA, fC, fZ, aN, u8_wrap] <;> rfl))) ?_
     refine zj ?_
     obtain rfl := Option.some.inj h
     simp only [retQ, zT, zX, zm1, exists_eq_left', go_sem, rA]
     refine ⟨1, 0, by simp, ?_, ?_⟩
     · first | rfl | (simp only [go_sem, rL, rD, rE, rA, rM, rS, reduceIte, reduceCtorEq, push_cast, if_true, dZ, nZ, mC, mN, mP, Bool.or_true, Bool.or_false, Bool.and_true, Bool.and_false, Bool.not_true, Bool.not_false, zA] <;> rfl)
     · first | rfl | (simp only [go_sem, push_cast, mN, zA] <;> rfl)
 · clear h
   rintro m L τ ⟨k9, l3, x5, v4, rfl, rfl, rfl, h⟩
   rcases k9 with _ | k9
   · cases h
   · simp only [vint_Put.l9] at h
     refine ze fun Z10 hZ10 => ?_
     refine rg tok [0, 1, 12] fun K hK => ?_
     simp only [go_sem, rL, rE, reduceCtorEq]
     refine hK _ _ ?_
     refine zz rfl (fun hc11 => ?_) (fun hc11 => ?_)
     · rw [if_pos hc11] at h
       have t12 := eq_true hc11
       refine zi ?_
       refine hZ10 _ _ ?_
       refine zk ?_
       have f13 := zo1 (T := tab) (src := 85) (dst := 5) rfl rfl rfl
       obtain ⟨_u14, hu14, h⟩ := bind_some h
       have gu14 := zQ hu14
       have f15 := (zw E35.len l3)
       refine rg tok [0, 1] fun K hK => ?_
       simp only [go_sem, rL, rD, rE, rM, reduceCtorEq, zB, zG, List.range_succ, List.range_zero, true_and, Nat.reduceMod, zJ, zF, zK, t12, f13, gu14, f15, zZ, List.all_nil, List.all_cons, AV.one, Bool.and_self, nA, lC, lZ, nZ, cA]
       refine hK _ _ ?_
       refine zM (L := [(0, .os true 1 0 (v4 + 1) 0 (lN (l3 ++ [UInt8.ofNat (Int.toNat (IntKind.u8.wrap ((BitVec.toNat (BitVec.ofInt 8 (IntKind.u8.wrap x5) ||| BitVec.ofInt 8 128) : Nat) : Int)))])) false), (1, .int .u64 x5)]) (τ := [.cells (v4 + 1) (fM encB (l3 ++ [UInt8.ofNat (Int.toNat (IntKind.u8.wrap ((BitVec.toNat (BitVec.ofInt 8 (IntKind.u8.wrap x5) ||| BitVec.ofInt 8 128) : Nat) : Int)))])), .cells 0 [.int .u8 (IntKind.u8.wrap ((BitVec.toNat (BitVec.ofInt 8 (IntKind.u8.wrap x5) ||| BitVec.ofInt 8 128) : Nat) : Int))]]) (.same (by first | exact ⟨rfl, rfl, trivial⟩ | rfl | (simp only [go_sem, reduceCtorEq, Fits, lP, lC, lZ, nZ, and_self] <;> rfl)) (by first | exact ⟨rfl, rfl, trivial⟩ | rfl | (simp only [go_sem, encB, fA, fC, fZ, aN, u8_wrap] <;> rfl))) ?_
       refine rgE tok [0, 1] fun K hK => ?_
       simp only [go_sem, rL, rE, reduceCtorEq, zB2, Int.reduceLT]
       refine hK _ _ ?_
       exact ⟨_, _, _, nS (0 + k9), ⟨k9, l3 ++ [UInt8.ofNat (Int.toNat (IntKind.u8.wrap ((BitVec.toNat (BitVec.ofInt 8 (IntKind.u8.wrap x5) ||| BitVec.ofInt 8 128) : Nat) : Int)))], Int.fdiv x5 (2 ^ (min (Int.toNat 7) 64)), v4 + 1, rfl, rfl, rfl, h⟩, (.t [0] false)⟩
     · rw [if_neg hc11] at h
       have t16 := eq_false hc11
       refine zx ?_
       refine hZ2 _ _ ?_
       have f17 := zo1 (T := tab) (src := 85) (dst := 5) rfl rfl rfl
       obtain ⟨_u18, hu18, h⟩ := bind_some h
       have gu18 := zQ hu18
       have f19 := (zw E35.len l3)
       refine rg tok [4] fun K hK => ?_
       simp only [go_sem, rL, rD, rE, rM, reduceCtorEq, zB, zG, List.range_succ, List.range_zero, true_and, Nat.reduceMod, zJ, zF, zK, t16, f17, gu18, f19, zZ, List.all_nil, List.all_cons, AV.one, Bool.and_self, nA, lC, lZ, nZ, cA]
       refine hK _ _ ?_
       refine zM (L := [(4, .os true 1 0 (v4 + 1) 0 (lN (l3 ++ [UInt8.ofNat (Int.toNat (IntKind.u8.wrap x5))])) false)]) (τ := [.cells (v4 + 1) (fM encB (l3 ++ [UInt8.ofNat (Int.toNat (IntKind.u8.wrap x5))])), .cells 0 [.int .u8 (IntKind.u8.wrap x5)]]) (.same (by first | exact ⟨rfl, trivial⟩ | rfl | (simp only [go_sem, Fits, lP, lC, lZ, nZ, and_self] <;> rfl)) (by first | exact ⟨rfl, trivial⟩ | rfl | (simp only [go_sem, encB, fA, fC, fZ, aN, u8_wrap] <;> rfl))) ?_
       refine zj ?_
       obtain rfl := Option.some.inj h
       simp only [retQ, zT, zX, zm1, exists_eq_left', go_sem, rA]
       refine ⟨0, v4 + 1, by simp, ?_, ?_⟩
       · first | rfl | (simp only [go_sem, rL, rD, rE, rA, rM, rS, reduceIte, reduceCtorEq, push_cast, if_true, dZ, nZ, mC, mN, mP, Bool.or_true, Bool.or_false, Bool.and_true, Bool.and_false, Bool.not_true, Bool.not_false, zA] <;> rfl)
       · first | rfl | (simp only [go_sem, push_cast, mN, zA] <;> rfl)
theorem vint_Put.ok (a0 : List UInt8) (a1 : Int) (r : List UInt8) (h : vint_Put a0 a1 = some r) : ACalls Tryd.prog 38 [.ds true (fM encB a0) (lN a0) false, .int .u64 a1] [] (fun r' _ => r' = .ds true (fM encB r) (lN r) false) :=
 (vint_Put.own a0 a1 r h).ownData (zw E35.len r) (by simp only [push_cast])
theorem vint_Put.ev (a0 : List UInt8) (a1 : Int) (r : List UInt8) (h : vint_Put a0 a1 = some r) (σ : Store) : ACalls Tryd.prog 38 [.ds true (fM encB a0) (lN a0) false, .int .u64 a1] σ (fun r' σ' => r' = .ds true (fM encB r) (lN r) false ∧ σ' = σ) :=
 (vint_Put.ok a0 a1 r h).c σ
def vint_Zig (a0 : Int) : Int :=
 IntKind.u64.wrap ((BitVec.toNat (BitVec.ofInt 64 (IntKind.u64.wrap ((IntKind.u64.wrap a0) * 2 ^ (min (Int.toNat 1) 64))) ^^^ BitVec.ofInt 64 (IntKind.u64.wrap (Int.fdiv a0 (2 ^ (min (Int.toNat 63) 64))))) : Nat) : Int)
theorem vint_Zig.ok (a0 : Int) (r : Int) (h : vint_Zig a0 = r) : ACalls Tryd.prog 39 [.int .i64 a0] [] (fun r' _ => r' = .int .u64 r) := by
 refine zn (rs := [.tmp 2]) tok Tryd.func39 rfl Tryd.ntmps39 rfl Tryd.call39 (by simp) ?_
 refine zp [(0, .int .i64 a0)] ⟨rfl, trivial⟩ ?_
 unfold vint_Zig at h
 refine rg tok [0] fun K hK => ?_
 simp only [go_sem, rL, reduceCtorEq]
 refine hK _ _ ?_
 have f1 := zo1 (T := tab) (src := 3) (dst := 85) rfl rfl rfl
 have f2 := zo1 (T := tab) (src := 3) (dst := 85) rfl rfl rfl
 refine rg tok [2] fun K hK => ?_
 simp only [go_sem, rL, rE, reduceCtorEq, f1, zB2, Int.reduceLT]
 refine hK _ _ ?_
 refine zj ?_
 obtain rfl := h
 exact retA
theorem vint_Zig.ev (a0 : Int) (r : Int) (h : vint_Zig a0 = r) (σ : Store) : ACalls Tryd.prog 39 [.int .i64 a0] σ (fun r' σ' => r' = .int .u64 r ∧ σ' = σ) :=
 (vint_Zig.ok a0 r h).c σ
def wire_Put (a0 : List UInt8) (a1 : GRaw) : Option (List UInt8 × Bool) :=
 bnd (wire_Check a1) fun r2 => (if (!r2) = true then some (a0, false) else (vint_Put a0 (IntKind.u64.wrap (IntKind.i64.wrap ((IntKind.i64.wrap (2 * a1.fTag)) + a1.fWire)))).bind fun r5 => (if a1.fWire = 0 then bnd (vint_Zig a1.fN) fun r9 => (vint_Put r5 r9).bind fun r10 => some (r10, true) else (vint_Put r5 (IntKind.u64.wrap (lN a1.fB : Int))).bind fun r13 => (room (lN r13 + lN a1.fB) 1).bind fun _u14 => some (r13 ++ a1.fB, true)))
theorem wire_Put.ok (a0 : List UInt8) (a1 : GRaw) (r : List UInt8 × Bool) (h : wire_Put a0 a1 = some r) : ACalls Tryd.prog 19 [.ds true (fM encB a0) (lN a0) false, .agg (encGRaw a1)] [] (fun r' _ => r' = .tup [.ds true (fM encB r.1) (lN r.1) false, .bool r.2]) := by
 refine zn (rs := [.tmp 4, .tmp 5]) tok Tryd.func19 rfl Tryd.ntmps19 rfl Tryd.call19 (by simp) ?_
 refine zp [(0, .ds true (fM encB a0) (lN a0) false), (1, .agg (encGRaw a1))] ⟨rfl, rfl, trivial⟩ ?_
 unfold wire_Put at h
 refine rg tok [0, 3] fun K hK => ?_
 simp only [go_sem, rL, rE, rA, reduceCtorEq, encGRaw]
 refine hK _ _ ?_
 refine ze fun Z1 hZ1 => ?_
 refine rc [0, 3, 9] fun K hK => ?_
 obtain ⟨r2, hr2, h⟩ := zE h
 refine za tok 1 ?_
 simp only [go_sem, rL, rD, rA, reduceCtorEq]
 refine zh rfl rfl rfl (wire_Check.ev a1 r2 hr2 _) ?_
 rintro _ _ ⟨rfl, rfl⟩
 refine za tok 1 ?_
 simp only [go_sem, rL, rE, reduceCtorEq]
 refine zb ?_
 simp only [zd, upd, rE, reduceIte, zl, zm]
 refine hK _ _ ?_
 refine zq (b := (!r2)) rfl (fun hc3 => ?_) (fun hc3 => ?_)
 · rw [if_pos hc3] at h
   refine rg tok [4, 5] fun K hK => ?_
   simp only [go_sem, rL, rE, reduceCtorEq]
   refine hK _ _ ?_
   refine zj ?_
   obtain rfl := Option.some.inj h
   exact retA
 · rw [if_F hc3] at h
   refine zi ?_
   refine hZ1 _ _ ?_
   refine rc [3, 6] fun K hK => ?_
   have f4 := zo1 (T := tab) (src := 3) (dst := 85) rfl rfl rfl
   obtain ⟨r5, hr5, h⟩ := bind_some h
   refine za tok 8 ?_
   simp only [go_sem, rL, rE, rA, reduceCtorEq, f4]
   refine zh rfl rfl rfl (vint_Put.ev a0 (IntKind.u64.wrap (IntKind.i64.wrap ((IntKind.i64.wrap (2 * a1.fTag)) + a1.fWire))) r5 hr5 _) ?_
   rintro _ _ ⟨rfl, rfl⟩
   refine za tok 1 ?_
   simp only [go_sem, rL, rE, reduceCtorEq]
   refine zb ?_
   simp only [zd, upd, rE, reduceIte, zl, zm]
   refine hK _ _ ?_
   refine ze fun Z6 hZ6 => ?_
   refine rg tok [3, 6, 22] fun K hK => ?_
   simp only [go_sem, rL, rE, rA]
   refine hK _ _ ?_
   refine zz rfl (fun hc7 => ?_) (fun hc7 => ?_)
   · rw [if_pos hc7] at h
     have t8 := eq_true hc7
     refine rc [4, 5] fun K hK => ?_
     obtain ⟨r9, hr9, h⟩ := zE h
     refine za tok 3 ?_
     simp only [go_sem, rL, rE, rA, t8]
     refine zh rfl rfl rfl (vint_Zig.ev a1.fN r9 hr9 _) ?_
     rintro _ _ ⟨rfl, rfl⟩
     obtain ⟨r10, hr10, h⟩ := bind_some h
     refine zh rfl rfl rfl (vint_Put.ev r5 r9 r10 hr10 _) ?_
     rintro _ _ ⟨rfl, rfl⟩
     refine za tok 2 ?_
     simp only [go_sem, rL, rE]
     refine zb ?_
     simp only [zd, upd, rE, reduceIte, zl, zm]
     refine hK _ _ ?_
     refine zj ?_
     obtain rfl := Option.some.inj h
     exact retA
   · rw [if_neg hc7] at h
     have t11 := eq_false hc7
     refine zi ?_
     refine hZ6 _ _ ?_
     have f12 := zo1 (T := tab) (src := 3) (dst := 85) rfl rfl rfl
     obtain ⟨r13, hr13, h⟩ := bind_some h
     obtain ⟨_u14, hu14, h⟩ := bind_some h
     have gu14 := zQ hu14
     have f15 := (zw E35.len r13)
     refine rd [4, 5] fun K hK => ?_
     refine DW.start (T := tab) [.any, .any, .at [], .at [], .at [], .eff, .any, .own 1 [], .eff, .any, .any] [(1, [])] ?_
     refine DW.runN tok 5 ?_
     simp only [go_sem, rL, rE, rA, t11, f12, lC, lZ, nZ]
     refine DW.callS rfl rfl rfl (@id (ACalls Tryd.prog 38 [.ds true (fM encB r5) (lN r5) false, .int .u64 (IntKind.u64.wrap (lN a1.fB : Int))] [.cells 0 [.int .i64 a1.fTag, .int .i64 a1.fWire, .int .i64 a1.fN, .str a1.fB]] (fun r' σ' => r' = .os true 1 1 0 0 (lN r13) false ∧ σ' = [.cells 0 [.int .i64 a1.fTag, .int .i64 a1.fWire, .int .i64 a1.fN, .str a1.fB], .cells 0 (fM encB r13)])) ((vint_Put.own r5 (IntKind.u64.wrap (lN a1.fB : Int)) r13 hr13).ownAt0 (by simp only [push_cast]) (by simp only [push_cast]) _)) (zI5 (by simp only [go_sem, rD])) ?_
     refine DW.runN tok 5 ?_
     simp only [go_sem, rL, rD, rE, rA, zJ, zF, zK, true_and, gu14, f15, srcCells_s, zP3, zi2, lC, lZ, nZ]
     refine DW.fin tok (by decide +kernel) rfl ?_
     simp only [zd, upd, rE, reduceIte, zl, zm]
     refine hK _ _ ?_
     refine zM (L := [(4, .os true 1 1 (0 + 1) 0 (lN (r13 ++ a1.fB)) false), (5, .bool true)]) (τ := [.cells 0 [.int .i64 a1.fTag, .int .i64 a1.fWire, .int .i64 a1.fN, .str a1.fB], .cells (0 + 1) (fM encB (r13 ++ a1.fB))]) .s ?_
     refine zj ?_
     obtain rfl := Option.some.inj h
     exact retA
theorem wire_Put.ev (a0 : List UInt8) (a1 : GRaw) (r : List UInt8 × Bool) (h : wire_Put a0 a1 = some r) (σ : Store) : ACalls Tryd.prog 19 [.ds true (fM encB a0) (lN a0) false, .agg (encGRaw a1)] σ (fun r' σ' => r' = .tup [.ds true (fM encB r.1) (lN r.1) false, .bool r.2] ∧ σ' = σ) :=
 (wire_Put.ok a0 a1 r h).c σ
def wire_PutAll.l11 : List GRaw → Int → List UInt8 → Option (List UInt8 × Int)
 | [], x8, x7 => some (x7, 0)
 | y11 :: q11, x8, x7 => (wire_Put x7 y11).bind fun r17 => (if 4096 < (lN r17.1 : Int) then some (([] : List UInt8), 4) else ((wire_PutAll.l11 q11) (x8 + 1) r17.1))
def wire_PutAll.l4 (a0 : List GRaw) : List GRaw → Int → Option (List UInt8 × Int)
 | [], x2 => (wire_PutAll.l11 a0 0 ([] : List UInt8))
 | y4 :: q4, x2 => bnd (wire_Check y4) fun r25 => (if (!r25) = true then some (([] : List UInt8), 1) else ((wire_PutAll.l4 a0 q4) (x2 + 1)))
def wire_PutAll (a0 : List GRaw) : Option (List UInt8 × Int) :=
 (wire_PutAll.l4 a0 a0 0)
theorem wire_PutAll.ok (a0 : List GRaw) (r : List UInt8 × Int) (h : wire_PutAll a0 = some r) : ACalls Tryd.prog 11 [.ds true (fM encGRaw a0) (lN a0) false] [] (fun r' _ => r' = .tup [.ds true (fM encB r.1) (lN r.1) false, .int .i64 r.2]) := by
 refine zn (rs := [.tmp 2, .tmp 3]) tok Tryd.func11 rfl Tryd.ntmps11 rfl Tryd.call11 (by simp) ?_
 refine zp [(0, .ds true (fM encGRaw a0) (lN a0) false)] ⟨rfl, trivial⟩ ?_
 unfold wire_PutAll at h
 refine rg tok [0] fun K hK => ?_
 simp only [go_sem, rL, reduceCtorEq]
 refine hK _ _ ?_
 refine ze fun Z1 hZ1 => ?_
 refine rg tok [0, 9, 10, 11] fun K hK => ?_
 simp only [go_sem, rL, rE, reduceCtorEq]
 refine hK _ _ ?_
 refine zk ?_
 refine zO 0 fun hb4 => ?_
 replace hb4 : lN a0 ≤ 9223372036854775807 := hb4.1
 refine zy (fun m L τ => ∃ (p4 q4 : List GRaw) (x2 : Int), m = lN q4 ∧ L = ([(0, .ds true (fM encGRaw a0) (lN a0) false), (9, .ds true (fM encGRaw a0) (lN a0) false), (10, .int .i64 (lN a0 : Int)), (11, .int .i64 x2)] : List (Nat × AV)) ∧ τ = ([] : Store) ∧ a0 = p4 ++ q4 ∧ x2 = (lN p4 : Int) ∧ wire_PutAll.l4 a0 q4 x2 = some r) _ ⟨[], a0, 0, rfl, rfl, rfl, rfl, rfl, h⟩ .s ?_
 rintro m L τ ⟨p4, q4, x2, rfl, rfl, rfl, hE4, hi4, h⟩
 rcases q4 with _ | ⟨y4, q4⟩
 · have hz4 := zP hE4 hi4
   simp only [wire_PutAll.l4] at h
   refine rg tok [0, 9, 10, 11, 12] fun K hK => ?_
   simp only [go_sem, rL, rE, reduceCtorEq, hz4]
   refine hK _ _ ?_
   refine ze fun Z5 hZ5 => ?_
   refine zt rfl ?_
   refine zx ?_
   refine hZ1 _ _ ?_
   refine rg tok [0, 6] fun K hK => ?_
   simp only [go_sem, rL, rE, reduceCtorEq]
   refine hK _ _ ?_
   refine ze fun Z6 hZ6 => ?_
   refine rg tok [6, 19, 20, 21] fun K hK => ?_
   simp only [go_sem, rL, rE, reduceCtorEq]
   refine hK _ _ ?_
   refine zk ?_
   refine zO 19 fun hb11 => ?_
   replace hb11 : lN a0 ≤ 9223372036854775807 := hb11.1
   refine zy (fun m L τ => ∃ (p11 q11 : List GRaw) (x8 : Int) (x7 : List UInt8), m = lN q11 ∧ L = ([(6, .ds true (fM encB x7) (lN x7) false), (19, .ds true (fM encGRaw a0) (lN a0) false), (20, .int .i64 (lN a0 : Int)), (21, .int .i64 x8)] : List (Nat × AV)) ∧ τ = ([] : Store) ∧ a0 = p11 ++ q11 ∧ x8 = (lN p11 : Int) ∧ wire_PutAll.l11 q11 x8 x7 = some r) _ ⟨[], a0, 0, ([] : List UInt8), rfl, rfl, rfl, rfl, rfl, h⟩ (.t [] true) ?_
   rintro m L τ ⟨p11, q11, x8, x7, rfl, rfl, rfl, hE11, hi11, h⟩
   rcases q11 with _ | ⟨y11, q11⟩
   · have hz11 := zP hE11 hi11
     simp only [wire_PutAll.l11] at h
     refine rg tok [6, 19, 20, 21, 22] fun K hK => ?_
     simp only [go_sem, rL, rE, hz11]
     refine hK _ _ ?_
     refine ze fun Z12 hZ12 => ?_
     refine zt rfl ?_
     refine zx ?_
     refine hZ6 _ _ ?_
     refine rg tok [2, 3] fun K hK => ?_
     simp only [go_sem, rL, rE]
     refine hK _ _ ?_
     refine zj ?_
     obtain rfl := Option.some.inj h
     exact retA
   · obtain ⟨hz11, hw11, hx11, hE'11, hi'11⟩ := zI hE11 hi11 hb11
     simp only [wire_PutAll.l11] at h
     refine rg tok [6, 19, 20, 21, 22] fun K hK => ?_
     simp only [go_sem, rL, rE, hz11]
     refine hK _ _ ?_
     refine ze fun Z13 hZ13 => ?_
     refine zv rfl ?_
     refine zi ?_
     refine hZ13 _ _ ?_
     refine ze fun Z14 hZ14 => ?_
     refine zk ?_
     have f15 := E22.idxS hx11
     have f16 := E22.loadS rfl rfl hx11
     refine rg tok [6, 8, 19, 20, 21] fun K hK => ?_
     simp only [go_sem, rL, rD, rE, rA, encGRaw, f15, f16]
     refine hK _ _ ?_
     refine rc [6, 19, 20, 21] fun K hK => ?_
     obtain ⟨r17, hr17, h⟩ := bind_some h
     refine za tok 2 ?_
     simp only [go_sem, rL, rD, rE, rA]
     refine zh rfl rfl rfl (wire_Put.ev x7 y11 r17 hr17 _) ?_
     rintro _ _ ⟨rfl, rfl⟩
     refine za tok 4 ?_
     simp only [go_sem, rL, rE, rA]
     refine zb ?_
     simp only [zd, upd, rE, reduceIte, zl, zm]
     refine hK _ _ ?_
     refine rg tok [6, 19, 20, 21, 33] fun K hK => ?_
     simp only [go_sem, rL, rE]
     refine hK _ _ ?_
     refine zz rfl (fun hc18 => ?_) (fun hc18 => ?_)
     · rw [if_pos hc18] at h
       have t19 := eq_true hc18
       refine rg tok [2, 3] fun K hK => ?_
       simp only [go_sem, rL, rE, t19]
       refine hK _ _ ?_
       refine zj ?_
       obtain rfl := Option.some.inj h
       exact retA
     · rw [if_neg hc18] at h
       have t20 := eq_false hc18
       refine zi ?_
       refine hZ14 _ _ ?_
       refine rgE tok [6, 19, 20, 21] fun K hK => ?_
       simp only [go_sem, rL, rE, hw11, t20]
       refine hK _ _ ?_
       exact ⟨_, _, _, nS q11.length, ⟨p11 ++ [y11], q11, x8 + 1, r17.1, rfl, rfl, rfl, hE'11, hi'11, h⟩, (.t [] false)⟩
 · obtain ⟨hz4, hw4, hx4, hE'4, hi'4⟩ := zI hE4 hi4 hb4
   simp only [wire_PutAll.l4] at h
   refine rg tok [0, 9, 10, 11, 12] fun K hK => ?_
   simp only [go_sem, rL, rE, reduceCtorEq, hz4]
   refine hK _ _ ?_
   refine ze fun Z21 hZ21 => ?_
   refine zv rfl ?_
   refine zi ?_
   refine hZ21 _ _ ?_
   refine ze fun Z22 hZ22 => ?_
   refine zk ?_
   have f23 := E22.idxS hx4
   have f24 := E22.loadS rfl rfl hx4
   refine rg tok [0, 5, 9, 10, 11] fun K hK => ?_
   simp only [go_sem, rL, rD, rE, rA, reduceCtorEq, encGRaw, f23, f24]
   refine hK _ _ ?_
   refine rc [0, 9, 10, 11, 17] fun K hK => ?_
   obtain ⟨r25, hr25, h⟩ := zE h
   refine za tok 1 ?_
   simp only [go_sem, rL, rD, rE, rA, reduceCtorEq]
   refine zh rfl rfl rfl (wire_Check.ev y4 r25 hr25 _) ?_
   rintro _ _ ⟨rfl, rfl⟩
   refine za tok 1 ?_
   simp only [go_sem, rL, rE, reduceCtorEq]
   refine zb ?_
   simp only [zd, upd, rE, reduceIte, zl, zm]
   refine hK _ _ ?_
   refine zq (b := (!r25)) rfl (fun hc26 => ?_) (fun hc26 => ?_)
   · rw [if_pos hc26] at h
     refine rg tok [2, 3] fun K hK => ?_
     simp only [go_sem, rL, rE, reduceCtorEq]
     refine hK _ _ ?_
     refine zj ?_
     obtain rfl := Option.some.inj h
     exact retA
   · rw [if_F hc26] at h
     refine zi ?_
     refine hZ22 _ _ ?_
     refine rgE tok [0, 9, 10, 11] fun K hK => ?_
     simp only [go_sem, rL, rE, reduceCtorEq, hw4]
     refine hK _ _ ?_
     exact ⟨_, _, _, nS q4.length, ⟨p4 ++ [y4], q4, x2 + 1, rfl, rfl, rfl, hE'4, hi'4, h⟩, (.t [] false)⟩
theorem wire_PutAll.ev (a0 : List GRaw) (r : List UInt8 × Int) (h : wire_PutAll a0 = some r) (σ : Store) : ACalls Tryd.prog 11 [.ds true (fM encGRaw a0) (lN a0) false] σ (fun r' σ' => r' = .tup [.ds true (fM encB r.1) (lN r.1) false, .int .i64 r.2] ∧ σ' = σ) :=
 (wire_PutAll.ok a0 r h).c σ
def encode_bytes.body (self_encode_bytes : GValueNode → Option (List UInt8 × Int)) (self_encode_raw : Int → GValueValue → Option (GRaw × Int)) (self_encode_raws : GValueNode → Option (List GRaw × Int)) (a0 : GValueNode) : Option (List UInt8 × Int) :=
 (self_encode_raws a0).bind fun r1 => (if r1.2 = 0 then (wire_PutAll r1.1).bind fun r6 => some (r6.1, r6.2) else some (([] : List UInt8), r1.2))
theorem encode_bytes.step (self_encode_bytes : GValueNode → Option (List UInt8 × Int)) (self_encode_raw : Int → GValueValue → Option (GRaw × Int)) (self_encode_raws : GValueNode → Option (List GRaw × Int)) (ih_encode_bytes : ∀ (a0 : GValueNode) (r : List UInt8 × Int), self_encode_bytes a0 = some r → ACalls Tryd.prog 127 [.dp (encGValueNode a0) 0] [] (fun r' _ => r' = .tup [.ds true (fM encB r.1) (lN r.1) false, .int .i64 r.2])) (ih_encode_raw : ∀ (a0 : Int) (a1 : GValueValue) (r : GRaw × Int), self_encode_raw a0 a1 = some r → ACalls Tryd.prog 107 [.int .i64 a0, .agg (encGValueValue a1)] [] (fun r' _ => r' = .tup [.agg (encGRaw r.1), .int .i64 r.2])) (ih_encode_raws : ∀ (a0 : GValueNode) (r : List GRaw × Int), self_encode_raws a0 = some r → ACalls Tryd.prog 75 [.dp (encGValueNode a0) 0] [] (fun r' _ => r' = .tup [.ds true (fM encGRaw r.1) (lN r.1) false, .int .i64 r.2])) (a0 : GValueNode) (r : List UInt8 × Int) (h : encode_bytes.body self_encode_bytes self_encode_raw self_encode_raws a0 = some r) : ACalls Tryd.prog 127 [.dp (encGValueNode a0) 0] [] (fun r' _ => r' = .tup [.ds true (fM encB r.1) (lN r.1) false, .int .i64 r.2]) := by
 have ev_encode_bytes := fun a0 r h σ => (ih_encode_bytes a0 r h).c σ
 have ev_encode_raw := fun a0 a1 r h σ => (ih_encode_raw a0 a1 r h).c σ
 have ev_encode_raws := fun a0 r h σ => (ih_encode_raws a0 r h).c σ
 refine zn (rs := [.tmp 2, .tmp 3]) tok Tryd.func127 rfl Tryd.ntmps127 rfl Tryd.call127 (by simp) ?_
 refine zp [(0, .dp (encGValueNode a0) 0)] ⟨rfl, trivial⟩ ?_
 unfold encode_bytes.body at h
 refine rg tok [0] fun K hK => ?_
 simp only [go_sem, rL, reduceCtorEq]
 refine hK _ _ ?_
 refine rc [4, 5] fun K hK => ?_
 obtain ⟨r1, hr1, h⟩ := bind_some h
 refine za tok 1 ?_
 simp only [go_sem, rL]
 refine zh rfl rfl rfl (ev_encode_raws a0 r1 hr1 _) ?_
 rintro _ _ ⟨rfl, rfl⟩
 refine za tok 5 ?_
 simp only [go_sem, rL, rE, rA, reduceCtorEq]
 refine zb ?_
 simp only [zd, upd, rE, reduceIte, zl, zm]
 refine hK _ _ ?_
 refine ze fun Z2 hZ2 => ?_
 refine rg tok [4, 5, 12] fun K hK => ?_
 simp only [go_sem, rL, rE]
 refine hK _ _ ?_
 refine zz rfl (fun hc3 => ?_) (fun hc3 => ?_)
 · rw [if_neg hc3] at h
   have t4 := eq_false hc3
   refine rg tok [2, 3] fun K hK => ?_
   simp only [go_sem, rL, rE, t4]
   refine hK _ _ ?_
   refine zj ?_
   obtain rfl := Option.some.inj h
   exact retA
 · rw [if_pos hc3] at h
   have t5 := eq_true hc3
   refine zi ?_
   refine hZ2 _ _ ?_
   refine rc [2, 3] fun K hK => ?_
   obtain ⟨r6, hr6, h⟩ := bind_some h
   refine za tok 1 ?_
   simp only [go_sem, rL, rE, t5]
   refine zh rfl rfl rfl (wire_PutAll.ev r1.1 r6 hr6 _) ?_
   rintro _ _ ⟨rfl, rfl⟩
   refine za tok 4 ?_
   simp only [go_sem, rL, rE, rA]
   refine zb ?_
   simp only [zd, upd, rE, reduceIte, zl, zm]
   refine hK _ _ ?_
   refine zj ?_
   obtain rfl := Option.some.inj h
   exact retA
def encode_raw.j3 (m1_2 : GRaw) : Option (GRaw × Int) :=
 (if 4096 < (lN m1_2.fB : Int) then some ((⟨0, 0, 0, []⟩ : GRaw), 4) else some (m1_2, 0))
def encode_raw.body (self_encode_bytes : GValueNode → Option (List UInt8 × Int)) (self_encode_raw : Int → GValueValue → Option (GRaw × Int)) (self_encode_raws : GValueNode → Option (List GRaw × Int)) (a0 : Int) (a1 : GValueValue) : Option (GRaw × Int) :=
 (encode_kept a1).bind fun r8 => (match r8 with | .nil => (encode_raw.j3 (⟨a0, 1, 0, []⟩ : GRaw)) | .num n9 => some ((⟨a0, 0, n9, []⟩ : GRaw), 0) | .str s9 => (encode_raw.j3 (⟨a0, 1, 0, s9⟩ : GRaw)) | .node e9 r9 => (self_encode_bytes (⟨e9, r9⟩ : GValueNode)).bind fun r10 => (if r10.2 = 0 then (encode_raw.j3 (⟨a0, 1, 0, r10.1⟩ : GRaw)) else some ((⟨0, 0, 0, []⟩ : GRaw), r10.2)))
theorem encode_raw.step (self_encode_bytes : GValueNode → Option (List UInt8 × Int)) (self_encode_raw : Int → GValueValue → Option (GRaw × Int)) (self_encode_raws : GValueNode → Option (List GRaw × Int)) (ih_encode_bytes : ∀ (a0 : GValueNode) (r : List UInt8 × Int), self_encode_bytes a0 = some r → ACalls Tryd.prog 127 [.dp (encGValueNode a0) 0] [] (fun r' _ => r' = .tup [.ds true (fM encB r.1) (lN r.1) false, .int .i64 r.2])) (ih_encode_raw : ∀ (a0 : Int) (a1 : GValueValue) (r : GRaw × Int), self_encode_raw a0 a1 = some r → ACalls Tryd.prog 107 [.int .i64 a0, .agg (encGValueValue a1)] [] (fun r' _ => r' = .tup [.agg (encGRaw r.1), .int .i64 r.2])) (ih_encode_raws : ∀ (a0 : GValueNode) (r : List GRaw × Int), self_encode_raws a0 = some r → ACalls Tryd.prog 75 [.dp (encGValueNode a0) 0] [] (fun r' _ => r' = .tup [.ds true (fM encGRaw r.1) (lN r.1) false, .int .i64 r.2])) (a0 : Int) (a1 : GValueValue) (r : GRaw × Int) (h : encode_raw.body self_encode_bytes self_encode_raw self_encode_raws a0 a1 = some r) : ACalls Tryd.prog 107 [.int .i64 a0, .agg (encGValueValue a1)] [] (fun r' _ => r' = .tup [.agg (encGRaw r.1), .int .i64 r.2]) := by
 have ev_encode_bytes := fun a0 r h σ => (ih_encode_bytes a0 r h).c σ
 have ev_encode_raw := fun a0 a1 r h σ => (ih_encode_raw a0 a1 r h).c σ
 have ev_encode_raws := fun a0 r h σ => (ih_encode_raws a0 r h).c σ
 refine zn (rs := [.cell 4 33, .tmp 5]) tok Tryd.func107 rfl Tryd.ntmps107 rfl Tryd.call107 (by simp) ?_
 refine zp [(0, .int .i64 a0), (1, .agg (encGValueValue a1))] ⟨rfl, rfl, trivial⟩ ?_
 unfold encode_raw.body at h
 have f1 := za2 a1
 unfold AV.one at f1
 refine rg tok [0, 3, 4] fun K hK => ?_
 simp only [go_sem, rL, rE, reduceCtorEq, encGValueValue, f1]
 refine hK _ _ ?_
 refine rg tok [0, 3, 4, 6] fun K hK => ?_
 simp only [go_sem, rL, rD, rE, rA, reduceCtorEq]
 refine hK _ _ ?_
 refine zz1 (fun L τ => ∃ (m1_2 : GRaw), L = ([(4, .op 0 0 0), (6, .op 1 0 0)] : List (Nat × AV)) ∧ τ = ([.cells 0 [.int .i64 0, .int .i64 0, .int .i64 0, .str []], .cells 0 [.int .i64 m1_2.fTag, .int .i64 m1_2.fWire, .int .i64 m1_2.fN, .str m1_2.fB]] : Store) ∧ encode_raw.j3 m1_2 = some r) ?_ ?_
 · refine rc [0, 4, 6, 15] fun K hK => ?_
   obtain ⟨r8, hr8, h⟩ := bind_some h
   refine za tok 1 ?_
   simp only [go_sem, rL, rD, rE, reduceCtorEq]
   refine zh rfl rfl rfl (encode_kept.ev a1 r8 hr8 _) ?_
   rintro _ _ ⟨rfl, rfl⟩
   refine zb ?_
   simp only [zd, updO, upd, rE, reduceIte, zl, zm]
   refine hK _ _ ?_
   refine zk ?_
   rcases r8 with _ | n9 | s9 | ⟨e9, r9⟩
   · dsimp only at h
     try simp only [anyV_nil]
     refine rg tok [0, 4, 6, 15, 17, 18] fun K hK => ?_
     simp only [go_sem, rL, rE, rA, reduceCtorEq, zd1, zf1, TypeDesc.isIface]
     refine hK _ _ ?_
     refine zt rfl ?_
     refine rg tok [4, 6, 15, 23, 24] fun K hK => ?_
     simp only [go_sem, rL, rE, rA, reduceCtorEq, zd1, zf1, TypeDesc.isIface]
     refine hK _ _ ?_
     refine zt rfl ?_
     refine rg tok [4, 6, 28, 29] fun K hK => ?_
     simp only [go_sem, rL, rE, rA, zd1, zf1, TypeDesc.isIface]
     refine hK _ _ ?_
     refine zt rfl ?_
     refine zi ?_
     exact ⟨_, _, ⟨(⟨a0, 1, 0, []⟩ : GRaw), rfl, rfl, h⟩, (.t [1, 2] false)⟩
   · dsimp only at h
     try simp only [anyV_num]
     refine rg tok [0, 4, 6, 15, 17, 18] fun K hK => ?_
     simp only [go_sem, rL, rE, rA, reduceCtorEq, zd1, zf1, TypeDesc.isIface]
     refine hK _ _ ?_
     refine zv rfl ?_
     refine rg tok [0, 4, 7] fun K hK => ?_
     simp only [go_sem, rL, rE, reduceCtorEq]
     refine hK _ _ ?_
     refine rg tok [4, 5] fun K hK => ?_
     simp only [go_sem, rL, rD, rE, rA, reduceCtorEq]
     refine hK _ _ ?_
     refine zj ?_
     obtain rfl := Option.some.inj h
     exact retA
   · dsimp only at h
     try simp only [anyV_str]
     refine rg tok [0, 4, 6, 15, 17, 18] fun K hK => ?_
     simp only [go_sem, rL, rE, rA, reduceCtorEq, zd1, zf1, TypeDesc.isIface]
     refine hK _ _ ?_
     refine zt rfl ?_
     refine rg tok [4, 6, 15, 23, 24] fun K hK => ?_
     simp only [go_sem, rL, rE, rA, reduceCtorEq, zd1, zf1, TypeDesc.isIface]
     refine hK _ _ ?_
     refine zv rfl ?_
     refine rg tok [4, 6, 8] fun K hK => ?_
     simp only [go_sem, rL, rE]
     refine hK _ _ ?_
     refine rgE tok [4, 6] fun K hK => ?_
     simp only [go_sem, rL, rD, rE, rA]
     refine hK _ _ ?_
     exact ⟨_, _, ⟨(⟨a0, 1, 0, s9⟩ : GRaw), rfl, rfl, h⟩, (.t [1, 2] false)⟩
   · dsimp only at h
     try simp only [anyV_node]
     refine rg tok [0, 4, 6, 15, 17, 18] fun K hK => ?_
     simp only [go_sem, rL, rE, rA, reduceCtorEq, zd1, zf1, TypeDesc.isIface]
     refine hK _ _ ?_
     refine zt rfl ?_
     refine rg tok [4, 6, 15, 23, 24] fun K hK => ?_
     simp only [go_sem, rL, rE, rA, reduceCtorEq, zd1, zf1, TypeDesc.isIface]
     refine hK _ _ ?_
     refine zt rfl ?_
     refine rg tok [4, 6, 28, 29] fun K hK => ?_
     simp only [go_sem, rL, rE, rA, zd1, zf1, TypeDesc.isIface]
     refine hK _ _ ?_
     refine zv rfl ?_
     refine rg tok [4, 6, 9] fun K hK => ?_
     simp only [go_sem, rL, rE]
     refine hK _ _ ?_
     refine rc [4, 6, 10, 11] fun K hK => ?_
     obtain ⟨r10, hr10, h⟩ := bind_some h
     refine za tok 1 ?_
     simp only [go_sem, rL, rE]
     refine zh rfl rfl rfl (ev_encode_bytes (⟨e9, r9⟩ : GValueNode) r10 hr10 _) ?_
     rintro _ _ ⟨rfl, rfl⟩
     refine za tok 5 ?_
     simp only [go_sem, rL, rE, rA]
     refine zb ?_
     simp only [zd, upd, rE, reduceIte, zl, zm]
     refine hK _ _ ?_
     refine ze fun Z11 hZ11 => ?_
     refine rg tok [4, 6, 10, 11, 36] fun K hK => ?_
     simp only [go_sem, rL, rE]
     refine hK _ _ ?_
     refine zz rfl (fun hc12 => ?_) (fun hc12 => ?_)
     · rw [if_neg hc12] at h
       have t13 := eq_false hc12
       refine rg tok [4, 5] fun K hK => ?_
       simp only [go_sem, rL, rD, rE, rA, t13]
       refine hK _ _ ?_
       refine zj ?_
       obtain rfl := Option.some.inj h
       exact retA
     · rw [if_pos hc12] at h
       have t14 := eq_true hc12
       refine zi ?_
       refine hZ11 _ _ ?_
       have f15 := zU4 (T := tab) (src := 35) (dst := 9) rfl rfl rfl rfl rfl rfl r10.1
       refine rgE tok [4, 6] fun K hK => ?_
       simp only [go_sem, rL, rD, rE, rA, t14, f15]
       refine hK _ _ ?_
       exact ⟨_, _, ⟨(⟨a0, 1, 0, r10.1⟩ : GRaw), rfl, rfl, h⟩, (.t [1, 2] false)⟩
 rintro _ _ ⟨m1_2, rfl, rfl, h⟩
 unfold encode_raw.j3 at h
 refine ze fun Z4 hZ4 => ?_
 refine rg tok [4, 6, 45] fun K hK => ?_
 simp only [go_sem, rL, rE, rA]
 refine hK _ _ ?_
 refine zz rfl (fun hc5 => ?_) (fun hc5 => ?_)
 · rw [if_pos hc5] at h
   have t6 := eq_true hc5
   refine rg tok [4, 5] fun K hK => ?_
   simp only [go_sem, rL, rD, rE, rA, t6]
   refine hK _ _ ?_
   refine zj ?_
   obtain rfl := Option.some.inj h
   exact retA
 · rw [if_neg hc5] at h
   have t7 := eq_false hc5
   refine zi ?_
   refine hZ4 _ _ ?_
   refine rg tok [4, 5] fun K hK => ?_
   simp only [go_sem, rL, rD, rE, rA, t7]
   refine hK _ _ ?_
   refine zj ?_
   obtain rfl := Option.some.inj h
   exact retA
def encode_raws.l24 (self_encode_raw : Int → GValueValue → Option (GRaw × Int)) (x6 : Int) (rec10 : Int → List GRaw → Option (List GRaw × Int)) (y10 : Int) : List GValueValue → Int → List GRaw → Option (List GRaw × Int)
 | [], x20, l18 => (rec10 (x6 + 1) l18)
 | y24 :: q24, x20, l18 => (self_encode_raw y10 y24).bind fun r31 => (if r31.2 = 0 then (room (lN l18 + 1) 40).bind fun _u36 => ((encode_raws.l24 self_encode_raw x6 rec10 y10 q24) (x20 + 1) (l18 ++ [r31.1])) else some (([] : List GRaw), r31.2))
def encode_raws.l10 (self_encode_raw : Int → GValueValue → Option (GRaw × Int)) (a0 : GValueNode) : List Int → Int → List GRaw → Option (List GRaw × Int)
 | [], x6, l4 => (wire_Sorted l4).bind fun r12 => some (r12, 0)
 | y10 :: q10, x6, l4 => (value_Node_Get a0 y10).bind fun r17 => (encode_raws.l24 self_encode_raw x6 (encode_raws.l10 self_encode_raw a0 q10) y10 r17 0 l4)
def encode_raws.body (self_encode_bytes : GValueNode → Option (List UInt8 × Int)) (self_encode_raw : Int → GValueValue → Option (GRaw × Int)) (self_encode_raws : GValueNode → Option (List GRaw × Int)) (a0 : GValueNode) : Option (List GRaw × Int) :=
 (value_Node_Rest a0).bind fun r1 => (value_Node_Tags a0).bind fun r3 => (encode_raws.l10 self_encode_raw a0 r3 0 r1)
theorem encode_raws.step (self_encode_bytes : GValueNode → Option (List UInt8 × Int)) (self_encode_raw : Int → GValueValue → Option (GRaw × Int)) (self_encode_raws : GValueNode → Option (List GRaw × Int)) (ih_encode_bytes : ∀ (a0 : GValueNode) (r : List UInt8 × Int), self_encode_bytes a0 = some r → ACalls Tryd.prog 127 [.dp (encGValueNode a0) 0] [] (fun r' _ => r' = .tup [.ds true (fM encB r.1) (lN r.1) false, .int .i64 r.2])) (ih_encode_raw : ∀ (a0 : Int) (a1 : GValueValue) (r : GRaw × Int), self_encode_raw a0 a1 = some r → ACalls Tryd.prog 107 [.int .i64 a0, .agg (encGValueValue a1)] [] (fun r' _ => r' = .tup [.agg (encGRaw r.1), .int .i64 r.2])) (ih_encode_raws : ∀ (a0 : GValueNode) (r : List GRaw × Int), self_encode_raws a0 = some r → ACalls Tryd.prog 75 [.dp (encGValueNode a0) 0] [] (fun r' _ => r' = .tup [.ds true (fM encGRaw r.1) (lN r.1) false, .int .i64 r.2])) (a0 : GValueNode) (r : List GRaw × Int) (h : encode_raws.body self_encode_bytes self_encode_raw self_encode_raws a0 = some r) : ACalls Tryd.prog 75 [.dp (encGValueNode a0) 0] [] (fun r' _ => r' = .tup [.ds true (fM encGRaw r.1) (lN r.1) false, .int .i64 r.2]) := by
 have ev_encode_bytes := fun a0 r h σ => (ih_encode_bytes a0 r h).c σ
 have ev_encode_raw := fun a0 a1 r h σ => (ih_encode_raw a0 a1 r h).c σ
 have ev_encode_raws := fun a0 r h σ => (ih_encode_raws a0 r h).c σ
 refine zn (rs := [.tmp 2, .tmp 3]) tok Tryd.func75 rfl Tryd.ntmps75 rfl Tryd.call75 (by simp) ?_
 refine zp [(0, .dp (encGValueNode a0) 0)] ⟨rfl, trivial⟩ ?_
 unfold encode_raws.body at h
 refine rg tok [0] fun K hK => ?_
 simp only [go_sem, rL, reduceCtorEq]
 refine hK _ _ ?_
 refine rc [0, 4] fun K hK => ?_
 obtain ⟨r1, hr1, h⟩ := bind_some h
 refine za tok 1 ?_
 simp only [go_sem, rL]
 refine zh rfl rfl rfl (@id (ACalls Tryd.prog 104 [.dp (encGValueNode a0) 0] [] (fun r' σ' => r' = .os true 4 0 0 0 (lN r1) false ∧ σ' = [.cells 0 (fM encGRaw r1)])) ((value_Node_Rest.own a0 r1 hr1).ownAt0 (by simp only [push_cast]) (by simp only [push_cast]) _)) ?_
 rintro _ _ ⟨rfl, rfl⟩
 refine za tok 1 ?_
 simp only [go_sem, rL, rE, reduceCtorEq]
 refine zb ?_
 simp only [zd, upd, rE, reduceIte, zl, zm]
 refine hK _ _ ?_
 refine ze fun Z2 hZ2 => ?_
 refine rc [0, 4, 14, 15, 16] fun K hK => ?_
 obtain ⟨r3, hr3, h⟩ := bind_some h
 refine za tok 1 ?_
 simp only [go_sem, rL, reduceCtorEq]
 refine zh rfl rfl rfl (value_Node_Tags.ev a0 r3 hr3 _) ?_
 rintro _ _ ⟨rfl, rfl⟩
 refine za tok 2 ?_
 simp only [go_sem, rL, rE, reduceCtorEq]
 refine zb ?_
 simp only [zd, upd, rE, reduceIte, zl, zm]
 refine hK _ _ ?_
 refine zk ?_
 refine zO 14 fun hb10 => ?_
 replace hb10 : lN r3 ≤ 9223372036854775807 := hb10.1
 refine zy (fun m L τ => ∃ (p10 q10 : List Int) (x6 : Int) (l4 : List GRaw) (v5 : Nat), m = lN q10 ∧ L = ([(0, .dp (encGValueNode a0) 0), (4, .os true 4 0 v5 0 (lN l4) false), (14, .ds true (fM encI r3) (lN r3) false), (15, .int .i64 (lN r3 : Int)), (16, .int .i64 x6)] : List (Nat × AV)) ∧ τ = ([.cells v5 (fM encGRaw l4)] : Store) ∧ r3 = p10 ++ q10 ∧ x6 = (lN p10 : Int) ∧ encode_raws.l10 self_encode_raw a0 q10 x6 l4 = some r) _ ⟨[], r3, 0, r1, 0, rfl, rfl, rfl, rfl, rfl, h⟩ .s ?_
 rintro m L τ ⟨p10, q10, x6, l4, v5, rfl, rfl, rfl, hE10, hi10, h⟩
 rcases q10 with _ | ⟨y10, q10⟩
 · have hz10 := zP hE10 hi10
   simp only [encode_raws.l10] at h
   refine rg tok [0, 4, 14, 15, 16, 17] fun K hK => ?_
   simp only [go_sem, rL, rE, reduceCtorEq, hz10]
   refine hK _ _ ?_
   refine ze fun Z11 hZ11 => ?_
   refine zt rfl ?_
   refine zx ?_
   refine hZ2 _ _ ?_
   refine rc [2, 3] fun K hK => ?_
   obtain ⟨r12, hr12, h⟩ := bind_some h
   refine za tok 1 ?_
   simp only [go_sem, rL, rE, reduceCtorEq]
   refine zs5 (L := [(43, .ds true (fM encGRaw l4) (lN l4) false)]) (τ := []) (.t [] false) ?_
   refine zh rfl rfl rfl (wire_Sorted.ev l4 r12 hr12 _) ?_
   rintro _ _ ⟨rfl, rfl⟩
   refine za tok 2 ?_
   simp only [go_sem, rL, rE]
   refine zb ?_
   simp only [zd, upd, rE, reduceIte, zl, zm]
   refine hK _ _ ?_
   refine zj ?_
   obtain rfl := Option.some.inj h
   exact retA
 · obtain ⟨hz10, hw10, hx10, hE'10, hi'10⟩ := zI hE10 hi10 hb10
   simp only [encode_raws.l10] at h
   refine rg tok [0, 4, 14, 15, 16, 17] fun K hK => ?_
   simp only [go_sem, rL, rE, reduceCtorEq, hz10]
   refine hK _ _ ?_
   refine ze fun Z13 hZ13 => ?_
   refine zv rfl ?_
   refine zi ?_
   refine hZ13 _ _ ?_
   refine ze fun Z14 hZ14 => ?_
   refine zk ?_
   have f15 := E24.idxS hx10
   have f16 := E24.fldS0 (f := 3) rfl rfl hx10
   refine rg tok [0, 4, 6, 14, 15, 16] fun K hK => ?_
   simp only [go_sem, rL, rE, reduceCtorEq, encI, f15, f16]
   refine hK _ _ ?_
   refine rc [0, 4, 6, 14, 15, 16, 22, 23, 24] fun K hK => ?_
   obtain ⟨r17, hr17, h⟩ := bind_some h
   refine za tok 2 ?_
   simp only [go_sem, rL, rE, reduceCtorEq]
   refine zh rfl rfl rfl (value_Node_Get.ev a0 y10 r17 hr17 _) ?_
   rintro _ _ ⟨rfl, rfl⟩
   refine za tok 2 ?_
   simp only [go_sem, rL, rE, reduceCtorEq]
   refine zb ?_
   simp only [zd, upd, rE, reduceIte, zl, zm]
   refine hK _ _ ?_
   refine zk ?_
   refine zO 22 fun hb24 => ?_
   replace hb24 : lN r17 ≤ 9223372036854775807 := hb24.1
   refine zy (fun m L τ => ∃ (p24 q24 : List GValueValue) (x20 : Int) (l18 : List GRaw) (v19 : Nat), m = lN q24 ∧ L = ([(0, .dp (encGValueNode a0) 0), (4, .os true 4 0 v19 0 (lN l18) false), (6, .int .i64 y10), (14, .ds true (fM encI r3) (lN r3) false), (15, .int .i64 (lN r3 : Int)), (16, .int .i64 x6), (22, .ds true (fM encGValueValue r17) (lN r17) false), (23, .int .i64 (lN r17 : Int)), (24, .int .i64 x20)] : List (Nat × AV)) ∧ τ = ([.cells v19 (fM encGRaw l18)] : Store) ∧ r17 = p24 ++ q24 ∧ x20 = (lN p24 : Int) ∧ encode_raws.l24 self_encode_raw x6 (encode_raws.l10 self_encode_raw a0 q10) y10 q24 x20 l18 = some r) _ ⟨[], r17, 0, l4, v5, rfl, rfl, rfl, rfl, rfl, h⟩ .s ?_
   rintro m L τ ⟨p24, q24, x20, l18, v19, rfl, rfl, rfl, hE24, hi24, h⟩
   rcases q24 with _ | ⟨y24, q24⟩
   · have hz24 := zP hE24 hi24
     simp only [encode_raws.l24] at h
     refine rg tok [0, 4, 6, 14, 15, 16, 22, 23, 24, 25] fun K hK => ?_
     simp only [go_sem, rL, rE, reduceCtorEq, hz24]
     refine hK _ _ ?_
     refine ze fun Z25 hZ25 => ?_
     refine zt rfl ?_
     refine zx ?_
     refine hZ14 _ _ ?_
     refine rgE tok [0, 4, 14, 15, 16] fun K hK => ?_
     simp only [go_sem, rL, rE, reduceCtorEq, hw10]
     refine hK _ _ ?_
     exact ⟨_, _, _, nS q10.length, ⟨p10 ++ [y10], q10, x6 + 1, l18, v19, rfl, rfl, rfl, hE'10, hi'10, h⟩, .s⟩
   · obtain ⟨hz24, hw24, hx24, hE'24, hi'24⟩ := zI hE24 hi24 hb24
     simp only [encode_raws.l24] at h
     refine rg tok [0, 4, 6, 14, 15, 16, 22, 23, 24, 25] fun K hK => ?_
     simp only [go_sem, rL, rE, reduceCtorEq, hz24]
     refine hK _ _ ?_
     refine ze fun Z26 hZ26 => ?_
     refine zv rfl ?_
     refine zi ?_
     refine hZ26 _ _ ?_
     refine ze fun Z27 hZ27 => ?_
     refine zk ?_
     have f28 := E155.idxS hx24
     have f29 := E155.loadS rfl rfl hx24
     have f30 := za2 y24
     unfold AV.one at f30
     refine rg tok [0, 4, 6, 8, 14, 15, 16, 22, 23, 24] fun K hK => ?_
     simp only [go_sem, rL, rD, rE, reduceCtorEq, encGValueValue, f28, f29, f30]
     refine hK _ _ ?_
     refine rc [0, 4, 6, 9, 10, 14, 15, 16, 22, 23, 24] fun K hK => ?_
     obtain ⟨r31, hr31, h⟩ := bind_some h
     refine za tok 2 ?_
     simp only [go_sem, rL, rD, rE, reduceCtorEq]
     refine zh rfl rfl rfl (ev_encode_raw y10 y24 r31 hr31 _) ?_
     rintro _ _ ⟨rfl, rfl⟩
     refine za tok 6 ?_
     simp only [go_sem, rL, rD, rE, rA, reduceCtorEq, encGRaw]
     refine zb ?_
     simp only [zd, upd, rE, reduceIte, zl, zm]
     refine hK _ _ ?_
     refine ze fun Z32 hZ32 => ?_
     refine rg tok [0, 4, 6, 9, 10, 14, 15, 16, 22, 23, 24, 35] fun K hK => ?_
     simp only [go_sem, rL, rE, reduceCtorEq]
     refine hK _ _ ?_
     refine zz rfl (fun hc33 => ?_) (fun hc33 => ?_)
     · rw [if_neg hc33] at h
       have t34 := eq_false hc33
       refine rg tok [2, 3] fun K hK => ?_
       simp only [go_sem, rL, rE, reduceCtorEq, t34]
       refine hK _ _ ?_
       refine zj ?_
       obtain rfl := Option.some.inj h
       exact retA
     · rw [if_pos hc33] at h
       have t35 := eq_true hc33
       refine zi ?_
       refine hZ32 _ _ ?_
       obtain ⟨_u36, hu36, h⟩ := bind_some h
       have gu36 := zQ hu36
       have f37 := (zw E22.len l18)
       refine rgE tok [0, 4, 6, 14, 15, 16, 22, 23, 24] fun K hK => ?_
       simp only [go_sem, rL, rD, rE, rA, rM, reduceCtorEq, zB, zG, List.range_succ, List.range_zero, true_and, Nat.reduceMod, zJ, zF, zK, t35, gu36, f37, zZ, List.all_nil, List.all_cons, AV.one, Bool.and_self, nA, lC, lZ, nZ, cA]
       refine hK _ _ ?_
       refine hZ27 _ _ ?_
       refine rgE tok [0, 4, 6, 14, 15, 16, 22, 23, 24] fun K hK => ?_
       simp only [go_sem, rL, rE, reduceCtorEq, hw24]
       refine hK _ _ ?_
       exact ⟨_, _, _, nS q24.length, ⟨p24 ++ [y24], q24, x20 + 1, l18 ++ [r31.1], v19 + 1, rfl, rfl, rfl, hE'24, hi'24, h⟩, (.t [0] false)⟩
mutual
def encode_bytes : Nat → GValueNode → Option (List UInt8 × Int)
 | 0, _ => none
 | k + 1, a0 => encode_bytes.body (encode_bytes k) (encode_raw k) (encode_raws k) a0
def encode_raw : Nat → Int → GValueValue → Option (GRaw × Int)
 | 0, _, _ => none
 | k + 1, a0, a1 => encode_raw.body (encode_bytes k) (encode_raw k) (encode_raws k) a0 a1
def encode_raws : Nat → GValueNode → Option (List GRaw × Int)
 | 0, _ => none
 | k + 1, a0 => encode_raws.body (encode_bytes k) (encode_raw k) (encode_raws k) a0
end
theorem encode_bytes.all (k : Nat) : (∀ (a0 : GValueNode) (r : List UInt8 × Int), encode_bytes k a0 = some r → ACalls Tryd.prog 127 [.dp (encGValueNode a0) 0] [] (fun r' _ => r' = .tup [.ds true (fM encB r.1) (lN r.1) false, .int .i64 r.2])) ∧ (∀ (a0 : Int) (a1 : GValueValue) (r : GRaw × Int), encode_raw k a0 a1 = some r → ACalls Tryd.prog 107 [.int .i64 a0, .agg (encGValueValue a1)] [] (fun r' _ => r' = .tup [.agg (encGRaw r.1), .int .i64 r.2])) ∧ (∀ (a0 : GValueNode) (r : List GRaw × Int), encode_raws k a0 = some r → ACalls Tryd.prog 75 [.dp (encGValueNode a0) 0] [] (fun r' _ => r' = .tup [.ds true (fM encGRaw r.1) (lN r.1) false, .int .i64 r.2])) := by
 induction k with
 | zero => exact ⟨(fun a0 r h => by simp only [encode_bytes] at h; cases h), (fun a0 a1 r h => by simp only [encode_raw] at h; cases h), (fun a0 r h => by simp only [encode_raws] at h; cases h)⟩
 | succ k ih => exact ⟨(fun a0 r h => encode_bytes.step _ _ _ ih.1 ih.2.1 ih.2.2 a0 r (by simpa only [encode_bytes] using h)), (fun a0 a1 r h => encode_raw.step _ _ _ ih.1 ih.2.1 ih.2.2 a0 a1 r (by simpa only [encode_raw] using h)), (fun a0 r h => encode_raws.step _ _ _ ih.1 ih.2.1 ih.2.2 a0 r (by simpa only [encode_raws] using h))⟩
theorem encode_raws.ev (k : Nat) (a0 : GValueNode) (r : List GRaw × Int) (h : encode_raws k a0 = some r) (σ : Store) : ACalls Tryd.prog 75 [.dp (encGValueNode a0) 0] σ (fun r' σ' => r' = .tup [.ds true (fM encGRaw r.1) (lN r.1) false, .int .i64 r.2] ∧ σ' = σ) :=
 ((encode_bytes.all k).2.2 a0 r h).c σ
def encode_Raws (a0 : GTree) : Option (List GRaw × Int) :=
 (value_Of a0).bind fun r1 => (if ((!r1.2) || (!(decide (a0.fKind = 3)))) = true then some (([] : List GRaw), 1) else (value_Value_MustNode r1.1).bind fun r5 => (encode_raws rounds r5).bind fun r6 => some (r6.1, r6.2))
theorem encode_Raws.ok (a0 : GTree) (r : List GRaw × Int) (h : encode_Raws a0 = some r) : ACalls Tryd.prog 50 [.agg (cellsGTree a0)] [] (fun r' _ => r' = .tup [.ds true (fM encGRaw r.1) (lN r.1) false, .int .i64 r.2]) := by
 refine zn (rs := [.tmp 2, .tmp 3]) tok Tryd.func50 rfl Tryd.ntmps50 rfl Tryd.call50 (by simp) ?_
 refine zp [(0, .agg (cellsGTree a0))] ⟨rfl, trivial⟩ ?_
 unfold encode_Raws at h
 refine rg tok [1] fun K hK => ?_
 simp only [go_sem, rL, rE, rA, reduceCtorEq, cellsGTree]
 refine hK _ _ ?_
 refine rc [1, 4, 5] fun K hK => ?_
 obtain ⟨r1, hr1, h⟩ := bind_some h
 refine za tok 1 ?_
 simp only [go_sem, rL, rD, rA]
 refine zh rfl rfl rfl (value_Of.ev a0 r1 hr1 _) ?_
 rintro _ _ ⟨rfl, rfl⟩
 have f2 := za2 r1.1
 unfold AV.one at f2
 refine za tok 6 ?_
 simp only [go_sem, rL, rD, rE, rA, encGValueValue, f2]
 refine zb ?_
 simp only [zd, upd, rE, reduceIte, zl, zm]
 refine hK _ _ ?_
 refine ze fun Z3 hZ3 => ?_
 refine rc [4, 17] fun K hK => ?_
 refine za tok 3 ?_
 simp only [go_sem, rL, rE]
 refine zo 4 (fun L τ => L = ([(4, .op 1 0 0), (17, .bool ((!r1.2) || (!(decide (a0.fKind = 3)))))] : List (Nat × AV)) ∧ τ = ([.cells 0 [.int .i64 a0.fKind, .int .i64 a0.fN, .str a0.fS, .ds true (fM encGEntry a0.fEntries) (lN a0.fEntries) false, .ds true (fM encGRaw a0.fRest) (lN a0.fRest) false], .cells 0 [ifcV r1.1]] : Store)) ?_ ?_
 · refine zH (b := (!r1.2)) 13 rfl (fun hg13 => ?_) (fun hg13 => ?_)
   · refine za tok 4 ?_
     simp only [go_sem, rL, rE]
     refine zb ⟨rfl, _, _, ⟨rfl, rfl⟩, .b hg13⟩
   · refine za tok 4 ?_
     simp only [go_sem, rL, rE, rA]
     refine zb ⟨rfl, _, _, ⟨rfl, rfl⟩, .b hg13⟩
 rintro _ _ ⟨rfl, rfl⟩
 refine zb ?_
 simp only [zd, rE, reduceIte, zl, zm]
 refine hK _ _ ?_
 refine zq (b := ((!r1.2) || (!(decide (a0.fKind = 3))))) rfl (fun hc4 => ?_) (fun hc4 => ?_)
 · rw [if_pos hc4] at h
   refine rg tok [2, 3] fun K hK => ?_
   simp only [go_sem, rL, rE]
   refine hK _ _ ?_
   refine zj ?_
   obtain rfl := Option.some.inj h
   exact retA
 · rw [if_F hc4] at h
   refine zi ?_
   refine hZ3 _ _ ?_
   refine rc [2, 3] fun K hK => ?_
   obtain ⟨r5, hr5, h⟩ := bind_some h
   refine za tok 1 ?_
   simp only [go_sem, rL, rD, rE]
   refine zh rfl rfl rfl (value_Value_MustNode.ev r1.1 r5 hr5 _) ?_
   rintro _ _ ⟨rfl, rfl⟩
   obtain ⟨r6, hr6, h⟩ := bind_some h
   refine zh rfl rfl rfl (encode_raws.ev rounds r5 r6 hr6 _) ?_
   rintro _ _ ⟨rfl, rfl⟩
   refine za tok 4 ?_
   simp only [go_sem, rL, rE, rA]
   refine zb ?_
   simp only [zd, upd, rE, reduceIte, zl, zm]
   refine hK _ _ ?_
   refine zj ?_
   obtain rfl := Option.some.inj h
   exact retA
theorem encode_Raws.ev (a0 : GTree) (r : List GRaw × Int) (h : encode_Raws a0 = some r) (σ : Store) : ACalls Tryd.prog 50 [.agg (cellsGTree a0)] σ (fun r' σ' => r' = .tup [.ds true (fM encGRaw r.1) (lN r.1) false, .int .i64 r.2] ∧ σ' = σ) :=
 (encode_Raws.ok a0 r h).c σ
def encode_Encode (a0 : GTree) : Option (List UInt8 × Int) :=
 (encode_Raws a0).bind fun r1 => (if r1.2 = 0 then (wire_PutAll r1.1).bind fun r6 => some (r6.1, r6.2) else some (([] : List UInt8), r1.2))
theorem encode_Encode.ok (a0 : GTree) (r : List UInt8 × Int) (h : encode_Encode a0 = some r) : ACalls Tryd.prog 31 [.agg (cellsGTree a0)] [] (fun r' _ => r' = .tup [.ds true (fM encB r.1) (lN r.1) false, .int .i64 r.2]) := by
 refine zn (rs := [.tmp 2, .tmp 3]) tok Tryd.func31 rfl Tryd.ntmps31 rfl Tryd.call31 (by simp) ?_
 refine zp [(0, .agg (cellsGTree a0))] ⟨rfl, trivial⟩ ?_
 unfold encode_Encode at h
 refine rg tok [1] fun K hK => ?_
 simp only [go_sem, rL, rE, rA, reduceCtorEq, cellsGTree]
 refine hK _ _ ?_
 refine rc [4, 5] fun K hK => ?_
 obtain ⟨r1, hr1, h⟩ := bind_some h
 refine za tok 1 ?_
 simp only [go_sem, rL, rD, rA]
 refine zh rfl rfl rfl (encode_Raws.ev a0 r1 hr1 _) ?_
 rintro _ _ ⟨rfl, rfl⟩
 refine za tok 5 ?_
 simp only [go_sem, rL, rE, rA]
 refine zb ?_
 simp only [zd, upd, rE, reduceIte, zl, zm]
 refine hK _ _ ?_
 refine ze fun Z2 hZ2 => ?_
 refine rg tok [4, 5, 12] fun K hK => ?_
 simp only [go_sem, rL, rE]
 refine hK _ _ ?_
 refine zz rfl (fun hc3 => ?_) (fun hc3 => ?_)
 · rw [if_neg hc3] at h
   have t4 := eq_false hc3
   refine rg tok [2, 3] fun K hK => ?_
   simp only [go_sem, rL, rE, t4]
   refine hK _ _ ?_
   refine zj ?_
   obtain rfl := Option.some.inj h
   exact retA
 · rw [if_pos hc3] at h
   have t5 := eq_true hc3
   refine zi ?_
   refine hZ2 _ _ ?_
   refine rc [2, 3] fun K hK => ?_
   obtain ⟨r6, hr6, h⟩ := bind_some h
   refine za tok 1 ?_
   simp only [go_sem, rL, rE, t5]
   refine zh rfl rfl rfl (wire_PutAll.ev r1.1 r6 hr6 _) ?_
   rintro _ _ ⟨rfl, rfl⟩
   refine za tok 4 ?_
   simp only [go_sem, rL, rE, rA]
   refine zb ?_
   simp only [zd, upd, rE, reduceIte, zl, zm]
   refine hK _ _ ?_
   refine zj ?_
   obtain rfl := Option.some.inj h
   exact retA
theorem encode_Encode.ev (a0 : GTree) (r : List UInt8 × Int) (h : encode_Encode a0 = some r) (σ : Store) : ACalls Tryd.prog 31 [.agg (cellsGTree a0)] σ (fun r' σ' => r' = .tup [.ds true (fM encB r.1) (lN r.1) false, .int .i64 r.2] ∧ σ' = σ) :=
 (encode_Encode.ok a0 r h).c σ
def decode_Canonical (a0 : GSchema) (a1 : List UInt8) (a2 : List UInt8) : Option Bool :=
 (decode_Decode a0 a1 a2).bind fun r1 => (if r1.2 = 0 then (encode_Encode r1.1).bind fun r6 => some ((decide (r6.2 = 0)) && (decide (r6.1 = a2))) else some false)
theorem decode_Canonical.ok (a0 : GSchema) (a1 : List UInt8) (a2 : List UInt8) (r : Bool) (h : decode_Canonical a0 a1 a2 = some r) : ACalls Tryd.prog 17 [.agg (encGSchema a0), .str a1, .ds true (fM encB a2) (lN a2) false] [] (fun r' _ => r' = .bool r) := by
 refine zn (rs := [.tmp 6]) tok Tryd.func17 rfl Tryd.ntmps17 rfl Tryd.call17 (by simp) ?_
 refine zp [(0, .agg (encGSchema a0)), (1, .str a1), (2, .ds true (fM encB a2) (lN a2) false)] ⟨rfl, rfl, rfl, trivial⟩ ?_
 unfold decode_Canonical at h
 refine rg tok [1, 2, 3] fun K hK => ?_
 simp only [go_sem, rL, rE, rA, reduceCtorEq, encGSchema]
 refine hK _ _ ?_
 refine rc [2, 7, 8] fun K hK => ?_
 obtain ⟨r1, hr1, h⟩ := bind_some h
 refine za tok 3 ?_
 simp only [go_sem, rL, rD, rE, rA]
 refine zh rfl rfl rfl (decode_Decode.ev a0 a1 a2 r1 hr1 _) ?_
 rintro _ _ ⟨rfl, rfl⟩
 refine za tok 6 ?_
 simp only [go_sem, rL, rD, rE, rA, cellsGTree]
 refine zb ?_
 simp only [zd, upd, rE, reduceIte, zl, zm]
 refine hK _ _ ?_
 refine ze fun Z2 hZ2 => ?_
 refine rg tok [2, 7, 18] fun K hK => ?_
 simp only [go_sem, rL, rE]
 refine hK _ _ ?_
 refine zz rfl (fun hc3 => ?_) (fun hc3 => ?_)
 · rw [if_neg hc3] at h
   have t4 := eq_false hc3
   refine rg tok [6] fun K hK => ?_
   simp only [go_sem, rL, rE, t4]
   refine hK _ _ ?_
   refine zj ?_
   obtain rfl := Option.some.inj h
   exact retA
 · rw [if_pos hc3] at h
   have t5 := eq_true hc3
   refine zi ?_
   refine hZ2 _ _ ?_
   refine rc [2, 8, 9] fun K hK => ?_
   obtain ⟨r6, hr6, h⟩ := bind_some h
   refine za tok 1 ?_
   simp only [go_sem, rL, rD, rE, rA, t5]
   refine zh rfl rfl rfl (encode_Encode.ev r1.1 r6 hr6 _) ?_
   rintro _ _ ⟨rfl, rfl⟩
   refine za tok 5 ?_
   simp only [go_sem, rL, rE, rA]
   refine zb ?_
   simp only [zd, upd, rE, reduceIte, zl, zm]
   refine hK _ _ ?_
   refine rc [6] fun K hK => ?_
   refine za tok 3 ?_
   simp only [go_sem, rL, rE]
   refine zo 6 (fun L τ => L = ([(32, .bool ((decide (r6.2 = 0)) && (decide (r6.1 = a2))))] : List (Nat × AV)) ∧ τ = ([.cells 0 [.str a0.fName, .ds true (fM encGMessage a0.fMessages) (lN a0.fMessages) false, .ds true (fM encGEnumeration a0.fEnums) (lN a0.fEnums) false, .ds true (fM encGMethod a0.fMethods) (lN a0.fMethods) false], .cells 0 [.int .i64 r1.1.fKind, .int .i64 r1.1.fN, .str r1.1.fS, .ds true (fM encGEntry r1.1.fEntries) (lN r1.1.fEntries) false, .ds true (fM encGRaw r1.1.fRest) (lN r1.1.fRest) false]] : Store)) ?_ ?_
   · refine zR 26 rfl (fun hg26 => ?_) (fun hg26 => ?_)
     · have t7 := eq_true hg26
       have f8 := zU4 (T := tab) (src := 35) (dst := 9) rfl rfl rfl rfl rfl rfl r6.1
       have f9 := zU4 (T := tab) (src := 35) (dst := 9) rfl rfl rfl rfl rfl rfl a2
       refine za tok 6 ?_
       simp only [go_sem, rL, rE, f8, f9]
       refine zb ⟨rfl, _, _, ⟨rfl, rfl⟩, .p t7⟩
     · have t10 := eq_false hg26
       refine za tok 6 ?_
       simp only [go_sem, rL, rE]
       refine zb ⟨rfl, _, _, ⟨rfl, rfl⟩, .p t10⟩
   rintro _ _ ⟨rfl, rfl⟩
   refine za tok 1 ?_
   simp only [go_sem, rL]
   refine zb ?_
   simp only [zd, upd, rE, reduceIte, zl, zm]
   refine hK _ _ ?_
   refine zj ?_
   obtain rfl := Option.some.inj h
   exact retA
theorem decode_Canonical.ev (a0 : GSchema) (a1 : List UInt8) (a2 : List UInt8) (r : Bool) (h : decode_Canonical a0 a1 a2 = some r) (σ : Store) : ACalls Tryd.prog 17 [.agg (encGSchema a0), .str a1, .ds true (fM encB a2) (lN a2) false] σ (fun r' σ' => r' = .bool r ∧ σ' = σ) :=
 (decode_Canonical.ok a0 a1 a2 r h).c σ
def law12_awake  : Option Bool :=
 (decode_Decode (⟨[97], [(⟨[109], ([] : List GField), ([] : List Int)⟩ : GMessage)], ([] : List GEnumeration), ([] : List GMethod)⟩ : GSchema) [109] [(2 : UInt8), (10 : UInt8)]).bind fun r2 => (if ((decide (r2.2 = 0)) && (decide ((lN r2.1.fRest : Int) = 1))) = true then (idxL r2.1.fRest 0).bind fun y5 => some (decide (y5.fTag = 1) && (decide (y5.fWire = 0) && (decide (y5.fN = 5) && decide (y5.fB = [])))) else some false).bind fun c5 => (if c5 = true then (decode_Canonical (⟨[97], [(⟨[109], ([] : List GField), ([] : List Int)⟩ : GMessage)], ([] : List GEnumeration), ([] : List GMethod)⟩ : GSchema) [109] [(2 : UInt8), (10 : UInt8)]).bind fun r10 => some r10 else some false).bind fun c9 => some c9
theorem law12_awake.ok  (r : Bool) (h : law12_awake = some r) : ACalls Tryd.prog 10 [] [] (fun r' _ => r' = .bool r) := by
 refine zn (rs := [.tmp 0]) tok Tryd.func10 rfl Tryd.ntmps10 rfl Tryd.call10 (by simp) ?_
 refine zp [] trivial ?_
 unfold law12_awake at h
 refine rg tok [] fun K hK => ?_
 simp only [go_sem, rL]
 refine hK _ _ ?_
 refine rg tok [1] fun K hK => ?_
 simp only [go_sem, rL, rD, rE, rA, rM, zB, zG, List.range_succ, List.range_zero, true_and, Nat.reduceMod]
 refine hK _ _ ?_
 refine rc [1, 2, 3] fun K hK => ?_
 have f1 := fun (o0 : AObj) (o1 : AObj) (τ : Store) => conv_same (T := tab) (s := 35) (off := 0) (len := 2) (sz := 1) (nl := true) (t := true) rfl rfl rfl rfl (σ := o0 :: o1 :: .cells 0 [.int .u8 2, .int .u8 10] :: τ) (id := 2) (ver := 0) (by simp only [Store.at_hd, Store.at_tl, if_true]; rfl) ⟨by simp, by decide, rfl⟩
 obtain ⟨r2, hr2, h⟩ := bind_some h
 refine za tok 3 ?_
 simp only [go_sem, rL, rD, rE, rA, rM, zB, zG, List.range_succ, List.range_zero, true_and, Nat.reduceMod, f1]
 refine zs5 (L := [(1, .op 0 0 0), (8, .agg [.str [97], .ds true (fM encGMessage [(⟨[109], ([] : List GField), ([] : List Int)⟩ : GMessage)]) (lN [(⟨[109], ([] : List GField), ([] : List Int)⟩ : GMessage)]) false, .ds true (fM encGEnumeration ([] : List GEnumeration)) (lN ([] : List GEnumeration)) false, .ds true (fM encGMethod ([] : List GMethod)) (lN ([] : List GMethod)) false]), (10, .ds true (fM encB [(2 : UInt8), (10 : UInt8)]) (lN [(2 : UInt8), (10 : UInt8)]) false)]) (τ := [.cells 0 [.str [97], .ds true (fM encGMessage [(⟨[109], ([] : List GField), ([] : List Int)⟩ : GMessage)]) (lN [(⟨[109], ([] : List GField), ([] : List Int)⟩ : GMessage)]) false, .ds true (fM encGEnumeration ([] : List GEnumeration)) (lN ([] : List GEnumeration)) false, .ds true (fM encGMethod ([] : List GMethod)) (lN ([] : List GMethod)) false]]) (.t [1] true) ?_
 refine zh rfl rfl rfl (ACalls.loose (decode_Decode.ev (⟨[97], [(⟨[109], ([] : List GField), ([] : List Int)⟩ : GMessage)], ([] : List GEnumeration), ([] : List GMethod)⟩ : GSchema) [109] [(2 : UInt8), (10 : UInt8)] r2 hr2 _)) ?_
 rintro _ _ ⟨rfl, rfl⟩
 refine za tok 6 ?_
 simp only [go_sem, rL, rD, rE, rA, cellsGTree]
 refine zb ?_
 simp only [zd, upd, rE, reduceIte, zl, zm]
 refine hK _ _ ?_
 refine rc [0] fun K hK => ?_
 refine za tok 3 ?_
 simp only [go_sem, rL, rE]
 refine zo 5 (fun L τ => L = ([(1, .op 0 0 0), (2, .op 1 0 0), (21, .bool ((decide (r2.2 = 0)) && (decide ((lN r2.1.fRest : Int) = 1))))] : List (Nat × AV)) ∧ τ = ([.cells 0 [.str [97], .ds true (fM encGMessage [(⟨[109], ([] : List GField), ([] : List Int)⟩ : GMessage)]) (lN [(⟨[109], ([] : List GField), ([] : List Int)⟩ : GMessage)]) false, .ds true (fM encGEnumeration ([] : List GEnumeration)) (lN ([] : List GEnumeration)) false, .ds true (fM encGMethod ([] : List GMethod)) (lN ([] : List GMethod)) false], .cells 0 [.int .i64 r2.1.fKind, .int .i64 r2.1.fN, .str r2.1.fS, .ds true (fM encGEntry r2.1.fEntries) (lN r2.1.fEntries) false, .ds true (fM encGRaw r2.1.fRest) (lN r2.1.fRest) false]] : Store)) ?_ ?_
 · refine zR 16 rfl (fun hg16 => ?_) (fun hg16 => ?_)
   · have t3 := eq_true hg16
     refine za tok 5 ?_
     simp only [go_sem, rL, rE, rA]
     refine zb ⟨rfl, _, _, ⟨rfl, rfl⟩, .p t3⟩
   · have t4 := eq_false hg16
     refine za tok 5 ?_
     simp only [go_sem, rL, rE]
     refine zb ⟨rfl, _, _, ⟨rfl, rfl⟩, .p t4⟩
 rintro _ _ ⟨rfl, rfl⟩
 refine za tok 1 ?_
 simp only [go_sem, rL, rE]
 obtain ⟨c5, hc5, h⟩ := bind_some h
 refine zo 7 (fun L τ => L = ([(1, .op 0 0 0), (29, .bool c5)] : List (Nat × AV)) ∧ τ = ([.cells 0 [.str [97], .ds true (fM encGMessage [(⟨[109], ([] : List GField), ([] : List Int)⟩ : GMessage)]) (lN [(⟨[109], ([] : List GField), ([] : List Int)⟩ : GMessage)]) false, .ds true (fM encGEnumeration ([] : List GEnumeration)) (lN ([] : List GEnumeration)) false, .ds true (fM encGMethod ([] : List GMethod)) (lN ([] : List GMethod)) false], .cells 0 [.int .i64 r2.1.fKind, .int .i64 r2.1.fN, .str r2.1.fS, .ds true (fM encGEntry r2.1.fEntries) (lN r2.1.fEntries) false, .ds true (fM encGRaw r2.1.fRest) (lN r2.1.fRest) false]] : Store)) ?_ ?_
 · refine zH (b := ((decide (r2.2 = 0)) && (decide ((lN r2.1.fRest : Int) = 1)))) 22 rfl (fun hg22 => ?_) (fun hg22 => ?_)
   · rw [if_pos hg22] at hc5
     obtain ⟨y6, hy6, hc5⟩ := bind_some hc5
     have f7 := E22.idxS hy6
     have f8 := E22.loadS rfl rfl hy6
     refine za tok 7 ?_
     simp only [go_sem, rL, rD, rE, rA, encGRaw, f7, f8, evEqA, ceqL, ceq]
     obtain rfl := Option.some.inj hc5
     refine zb ⟨rfl, _, _, ⟨rfl, rfl⟩, .b hg22⟩
   · rw [if_F hg22] at hc5
     refine za tok 7 ?_
     simp only [go_sem, rL, rE]
     obtain rfl := Option.some.inj hc5
     refine zb ⟨rfl, _, _, ⟨rfl, rfl⟩, .b hg22⟩
 rintro _ _ ⟨rfl, rfl⟩
 refine za tok 1 ?_
 simp only [go_sem, rL, rE]
 obtain ⟨c9, hc9, h⟩ := bind_some h
 refine zo 5 (fun L τ => L = ([(35, .bool c9)] : List (Nat × AV)) ∧ τ = ([] : Store)) ?_ ?_
 · refine zH (b := c5) 30 rfl (fun hg30 => ?_) (fun hg30 => ?_)
   · rw [if_pos hg30] at hc9
     have f10 := fun (o0 : AObj) (o1 : AObj) (τ : Store) => conv_same (T := tab) (s := 35) (off := 0) (len := 2) (sz := 1) (nl := true) (t := true) rfl rfl rfl rfl (σ := o0 :: o1 :: .cells 0 [.int .u8 2, .int .u8 10] :: τ) (id := 2) (ver := 0) (by simp only [Store.at_hd, Store.at_tl, if_true]; rfl) ⟨by simp, by decide, rfl⟩
     obtain ⟨r11, hr11, hc9⟩ := bind_some hc9
     refine za tok 3 ?_
     simp only [go_sem, rL, rD, rE, rA, rM, zB, zG, List.range_succ, List.range_zero, true_and, Nat.reduceMod, f10]
     refine zh rfl rfl rfl (decode_Canonical.ok (⟨[97], [(⟨[109], ([] : List GField), ([] : List Int)⟩ : GMessage)], ([] : List GEnumeration), ([] : List GMethod)⟩ : GSchema) [109] [(2 : UInt8), (10 : UInt8)] r11 hr11).ld ?_
     rintro _ _ ⟨rfl, rfl⟩
     refine za tok 1 ?_
     simp only [go_sem, rL, rE]
     obtain rfl := Option.some.inj hc9
     refine zb ⟨rfl, _, _, ⟨rfl, rfl⟩, .told [] false (by decide) (by simp) (by first | rfl | simp) (by first | rfl | (simp only [← fA, ← lP]; simp only [go_sem, rL, rD, rE, rA, rM, rS, reduceIte, reduceCtorEq, push_cast, if_true, dZ, nZ, mC, mN, mP, Bool.or_true, Bool.or_false, Bool.and_true, Bool.and_false, Bool.not_true, Bool.not_false, TLS, encGMessage, and_self, zA]; done) | (simp only [go_sem, rL, rD, rE, rA, rM, rS, reduceIte, reduceCtorEq, push_cast, if_true, dZ, nZ, mC, mN, mP, Bool.or_true, Bool.or_false, Bool.and_true, Bool.and_false, Bool.not_true, Bool.not_false, TLS, encB, encI, encS, encBo, encK, zw1, fA, fC, fZ, aN, nA, lP, lC, lZ, nZ, aA, cA, Nat.add_assoc, encGMessage, and_self, zA] <;> first | rfl | (and_intros <;> rfl))) (by first | rfl | (simp only [← fA, ← lP]; simp only [go_sem, rL, rD, rE, rA, rM, rS, reduceIte, reduceCtorEq, push_cast, hg30, if_true, dZ, nZ, mC, mN, mP, Bool.or_true, Bool.or_false, Bool.and_true, Bool.and_false, Bool.not_true, Bool.not_false, TLS, encGMessage, and_self, zA]; done) | (simp only [go_sem, rE, push_cast, hg30, if_true, TLS, fZ, aN, lZ, encGMessage, and_self] <;> first | rfl | (and_intros <;> rfl)))⟩
   · rw [if_F hg30] at hc9
     refine za tok 5 ?_
     simp only [go_sem, rL, rE, true_and]
     obtain rfl := Option.some.inj hc9
     refine zb ⟨rfl, _, _, ⟨rfl, rfl⟩, .told [] false (by decide) (by simp) (by first | rfl | simp) (by first | rfl | (simp only [← fA, ← lP]; simp only [go_sem, rL, rD, rE, rA, rM, rS, reduceIte, reduceCtorEq, push_cast, if_true, dZ, nZ, mC, mN, mP, Bool.or_true, Bool.or_false, Bool.and_true, Bool.and_false, Bool.not_true, Bool.not_false, TLS, encGMessage, and_self, zA]; done) | (simp only [go_sem, rL, rD, rE, rA, rM, rS, reduceIte, reduceCtorEq, push_cast, if_true, dZ, nZ, mC, mN, mP, Bool.or_true, Bool.or_false, Bool.and_true, Bool.and_false, Bool.not_true, Bool.not_false, TLS, encB, encI, encS, encBo, encK, zw1, fA, fC, fZ, aN, nA, lP, lC, lZ, nZ, aA, cA, Nat.add_assoc, encGMessage, and_self, zA] <;> first | rfl | (and_intros <;> rfl))) (by first | rfl | (simp only [← fA, ← lP]; simp only [go_sem, rL, rD, rE, rA, rM, rS, reduceIte, reduceCtorEq, push_cast, hg30, if_true, dZ, nZ, mC, mN, mP, Bool.or_true, Bool.or_false, Bool.and_true, Bool.and_false, Bool.not_true, Bool.not_false, TLS, encGMessage, and_self, zA]; done) | (simp only [go_sem, rE, push_cast, hg30, if_true, TLS, fZ, aN, lZ, encGMessage, and_self] <;> first | rfl | (and_intros <;> rfl)))⟩
 rintro _ _ ⟨rfl, rfl⟩
 refine za tok 1 ?_
 simp only [go_sem, rL]
 refine zb ?_
 simp only [zd, upd, rE, reduceIte, zl, zm]
 refine hK _ _ ?_
 refine zj ?_
 obtain rfl := Option.some.inj h
 exact retA
theorem law12_awake.ev  (r : Bool) (h : law12_awake = some r) (σ : Store) : ACalls Tryd.prog 10 [] σ (fun r' σ' => r' = .bool r ∧ σ' = σ) :=
 (law12_awake.ok  r h).c σ
def ref09_Same.l28 (self_ref09_Same : GTree → GTree → Option Bool) (x11 : Int) (rec13 : Int → Option Bool) (y19 : GEntry) : List GTree → Int → Option Bool
 | [], x26 => (rec13 (x11 + 1))
 | y28 :: q28, x26 => (idxL y19.fTrees x26).bind fun y34 => (self_ref09_Same y28 y34).bind fun r37 => (if (!r37) = true then some false else ((ref09_Same.l28 self_ref09_Same x11 rec13 y19 q28) (x26 + 1)))
def ref09_Same.l13 (self_ref09_Same : GTree → GTree → Option Bool) (a1 : GTree) : List GEntry → Int → Option Bool
 | [], x11 => some true
 | y13 :: q13, x11 => (idxL a1.fEntries x11).bind fun y19 => (if ((!(decide (y13.fTag = y19.fTag))) || (!(decide ((lN y13.fTrees : Int) = (lN y19.fTrees : Int))))) = true then some false else (ref09_Same.l28 self_ref09_Same x11 (ref09_Same.l13 self_ref09_Same a1 q13) y19 y13.fTrees 0))
def ref09_Same.l8 (self_ref09_Same : GTree → GTree → Option Bool) (a0 : GTree) (a1 : GTree) : List GRaw → Int → Option Bool
 | [], x6 => (ref09_Same.l13 self_ref09_Same a1 a0.fEntries 0)
 | y8 :: q8, x6 => (idxL a1.fRest x6).bind fun y43 => (if (!(decide (y8.fTag = y43.fTag) && (decide (y8.fWire = y43.fWire) && (decide (y8.fN = y43.fN) && decide (y8.fB = y43.fB))))) = true then some false else ((ref09_Same.l8 self_ref09_Same a0 a1 q8) (x6 + 1)))
def ref09_Same.body (self_ref09_Same : GTree → GTree → Option Bool) (a0 : GTree) (a1 : GTree) : Option Bool :=
 (if (((((!(decide (a0.fKind = a1.fKind))) || (!(decide (a0.fN = a1.fN)))) || (!(decide (a0.fS = a1.fS)))) || (!(decide ((lN a0.fEntries : Int) = (lN a1.fEntries : Int))))) || (!(decide ((lN a0.fRest : Int) = (lN a1.fRest : Int))))) = true then some false else (ref09_Same.l8 self_ref09_Same a0 a1 a0.fRest 0))
theorem ref09_Same.step (self_ref09_Same : GTree → GTree → Option Bool) (ih_ref09_Same : ∀ (a0 : GTree) (a1 : GTree) (r : Bool), self_ref09_Same a0 a1 = some r → ACalls Tryd.prog 20 [.agg (cellsGTree a0), .agg (cellsGTree a1)] [] (fun r' _ => r' = .bool r)) (a0 : GTree) (a1 : GTree) (r : Bool) (h : ref09_Same.body self_ref09_Same a0 a1 = some r) : ACalls Tryd.prog 20 [.agg (cellsGTree a0), .agg (cellsGTree a1)] [] (fun r' _ => r' = .bool r) := by
 have ev_ref09_Same := fun a0 a1 r h σ => (ih_ref09_Same a0 a1 r h).c σ
 refine zn (rs := [.tmp 4]) tok Tryd.func20 rfl Tryd.ntmps20 rfl Tryd.call20 (by simp) ?_
 refine zp [(0, .agg (cellsGTree a0)), (1, .agg (cellsGTree a1))] ⟨rfl, rfl, trivial⟩ ?_
 unfold ref09_Same.body at h
 refine rg tok [2, 3] fun K hK => ?_
 simp only [go_sem, rL, rE, rA, reduceCtorEq, cellsGTree]
 refine hK _ _ ?_
 refine ze fun Z1 hZ1 => ?_
 refine rc [2, 3, 46] fun K hK => ?_
 refine za tok 6 ?_
 simp only [go_sem, rL, rE, rA]
 refine zo 6 (fun L τ => L = ([(2, .op 0 0 0), (3, .op 1 0 0), (21, .bool ((!(decide (a0.fKind = a1.fKind))) || (!(decide (a0.fN = a1.fN)))))] : List (Nat × AV)) ∧ τ = ([.cells 0 [.int .i64 a0.fKind, .int .i64 a0.fN, .str a0.fS, .ds true (fM encGEntry a0.fEntries) (lN a0.fEntries) false, .ds true (fM encGRaw a0.fRest) (lN a0.fRest) false], .cells 0 [.int .i64 a1.fKind, .int .i64 a1.fN, .str a1.fS, .ds true (fM encGEntry a1.fEntries) (lN a1.fEntries) false, .ds true (fM encGRaw a1.fRest) (lN a1.fRest) false]] : Store)) ?_ ?_
 · refine zR 15 rfl (fun hg15 => ?_) (fun hg15 => ?_)
   · have t2 := eq_false hg15
     refine za tok 6 ?_
     simp only [go_sem, rL, rE]
     refine zb ⟨rfl, _, _, ⟨rfl, rfl⟩, .p t2⟩
   · have t3 := eq_true hg15
     refine za tok 6 ?_
     simp only [go_sem, rL, rE, rA]
     refine zb ⟨rfl, _, _, ⟨rfl, rfl⟩, .p t3⟩
 rintro _ _ ⟨rfl, rfl⟩
 refine za tok 1 ?_
 simp only [go_sem, rL, rE]
 refine zo 6 (fun L τ => L = ([(2, .op 0 0 0), (3, .op 1 0 0), (28, .bool (((!(decide (a0.fKind = a1.fKind))) || (!(decide (a0.fN = a1.fN)))) || (!(decide (a0.fS = a1.fS)))))] : List (Nat × AV)) ∧ τ = ([.cells 0 [.int .i64 a0.fKind, .int .i64 a0.fN, .str a0.fS, .ds true (fM encGEntry a0.fEntries) (lN a0.fEntries) false, .ds true (fM encGRaw a0.fRest) (lN a0.fRest) false], .cells 0 [.int .i64 a1.fKind, .int .i64 a1.fN, .str a1.fS, .ds true (fM encGEntry a1.fEntries) (lN a1.fEntries) false, .ds true (fM encGRaw a1.fRest) (lN a1.fRest) false]] : Store)) ?_ ?_
 · refine zH (b := ((!(decide (a0.fKind = a1.fKind))) || (!(decide (a0.fN = a1.fN))))) 22 rfl (fun hg22 => ?_) (fun hg22 => ?_)
   · refine za tok 6 ?_
     simp only [go_sem, rL, rE]
     refine zb ⟨rfl, _, _, ⟨rfl, rfl⟩, .b hg22⟩
   · refine za tok 6 ?_
     simp only [go_sem, rL, rE, rA]
     refine zb ⟨rfl, _, _, ⟨rfl, rfl⟩, .b hg22⟩
 rintro _ _ ⟨rfl, rfl⟩
 refine za tok 1 ?_
 simp only [go_sem, rL, rE]
 refine zo 8 (fun L τ => L = ([(2, .op 0 0 0), (3, .op 1 0 0), (37, .bool ((((!(decide (a0.fKind = a1.fKind))) || (!(decide (a0.fN = a1.fN)))) || (!(decide (a0.fS = a1.fS)))) || (!(decide ((lN a0.fEntries : Int) = (lN a1.fEntries : Int))))))] : List (Nat × AV)) ∧ τ = ([.cells 0 [.int .i64 a0.fKind, .int .i64 a0.fN, .str a0.fS, .ds true (fM encGEntry a0.fEntries) (lN a0.fEntries) false, .ds true (fM encGRaw a0.fRest) (lN a0.fRest) false], .cells 0 [.int .i64 a1.fKind, .int .i64 a1.fN, .str a1.fS, .ds true (fM encGEntry a1.fEntries) (lN a1.fEntries) false, .ds true (fM encGRaw a1.fRest) (lN a1.fRest) false]] : Store)) ?_ ?_
 · refine zH (b := (((!(decide (a0.fKind = a1.fKind))) || (!(decide (a0.fN = a1.fN)))) || (!(decide (a0.fS = a1.fS))))) 29 rfl (fun hg29 => ?_) (fun hg29 => ?_)
   · refine za tok 8 ?_
     simp only [go_sem, rL, rE]
     refine zb ⟨rfl, _, _, ⟨rfl, rfl⟩, .b hg29⟩
   · refine za tok 8 ?_
     simp only [go_sem, rL, rE, rA]
     refine zb ⟨rfl, _, _, ⟨rfl, rfl⟩, .b hg29⟩
 rintro _ _ ⟨rfl, rfl⟩
 refine za tok 1 ?_
 simp only [go_sem, rL, rE]
 refine zo 8 (fun L τ => L = ([(2, .op 0 0 0), (3, .op 1 0 0), (46, .bool (((((!(decide (a0.fKind = a1.fKind))) || (!(decide (a0.fN = a1.fN)))) || (!(decide (a0.fS = a1.fS)))) || (!(decide ((lN a0.fEntries : Int) = (lN a1.fEntries : Int))))) || (!(decide ((lN a0.fRest : Int) = (lN a1.fRest : Int))))))] : List (Nat × AV)) ∧ τ = ([.cells 0 [.int .i64 a0.fKind, .int .i64 a0.fN, .str a0.fS, .ds true (fM encGEntry a0.fEntries) (lN a0.fEntries) false, .ds true (fM encGRaw a0.fRest) (lN a0.fRest) false], .cells 0 [.int .i64 a1.fKind, .int .i64 a1.fN, .str a1.fS, .ds true (fM encGEntry a1.fEntries) (lN a1.fEntries) false, .ds true (fM encGRaw a1.fRest) (lN a1.fRest) false]] : Store)) ?_ ?_
 · refine zH (b := ((((!(decide (a0.fKind = a1.fKind))) || (!(decide (a0.fN = a1.fN)))) || (!(decide (a0.fS = a1.fS)))) || (!(decide ((lN a0.fEntries : Int) = (lN a1.fEntries : Int)))))) 38 rfl (fun hg38 => ?_) (fun hg38 => ?_)
   · refine za tok 8 ?_
     simp only [go_sem, rL, rE]
     refine zb ⟨rfl, _, _, ⟨rfl, rfl⟩, .b hg38⟩
   · refine za tok 8 ?_
     simp only [go_sem, rL, rE, rA]
     refine zb ⟨rfl, _, _, ⟨rfl, rfl⟩, .b hg38⟩
 rintro _ _ ⟨rfl, rfl⟩
 refine zb ?_
 simp only [zd, rE, reduceIte, zl, zm]
 refine hK _ _ ?_
 refine zq (b := (((((!(decide (a0.fKind = a1.fKind))) || (!(decide (a0.fN = a1.fN)))) || (!(decide (a0.fS = a1.fS)))) || (!(decide ((lN a0.fEntries : Int) = (lN a1.fEntries : Int))))) || (!(decide ((lN a0.fRest : Int) = (lN a1.fRest : Int)))))) rfl (fun hc4 => ?_) (fun hc4 => ?_)
 · rw [if_pos hc4] at h
   refine rg tok [4] fun K hK => ?_
   simp only [go_sem, rL, rE]
   refine hK _ _ ?_
   refine zj ?_
   obtain rfl := Option.some.inj h
   exact retA
 · rw [if_F hc4] at h
   refine zi ?_
   refine hZ1 _ _ ?_
   refine ze fun Z5 hZ5 => ?_
   refine rg tok [2, 3, 5] fun K hK => ?_
   simp only [go_sem, rL, rE]
   refine hK _ _ ?_
   refine zk ?_
   refine zs2 0 rfl fun hb8 => ?_
   replace hb8 : lN a0.fRest ≤ 9223372036854775807 := hb8.2.2.2.2.1.1
   refine zy (fun m L τ => ∃ (p8 q8 : List GRaw) (x6 : Int), m = lN q8 ∧ L = ([(2, .op 0 0 0), (3, .op 1 0 0), (5, .int .i64 x6)] : List (Nat × AV)) ∧ τ = ([.cells 0 [.int .i64 a0.fKind, .int .i64 a0.fN, .str a0.fS, .ds true (fM encGEntry a0.fEntries) (lN a0.fEntries) false, .ds true (fM encGRaw a0.fRest) (lN a0.fRest) false], .cells 0 [.int .i64 a1.fKind, .int .i64 a1.fN, .str a1.fS, .ds true (fM encGEntry a1.fEntries) (lN a1.fEntries) false, .ds true (fM encGRaw a1.fRest) (lN a1.fRest) false]] : Store) ∧ a0.fRest = p8 ++ q8 ∧ x6 = (lN p8 : Int) ∧ ref09_Same.l8 self_ref09_Same a0 a1 q8 x6 = some r) _ ⟨[], a0.fRest, 0, rfl, rfl, rfl, rfl, rfl, h⟩ .s ?_
   rintro m L τ ⟨p8, q8, x6, rfl, rfl, rfl, hE8, hi8, h⟩
   rcases q8 with _ | ⟨y8, q8⟩
   · have hz8 := zP hE8 hi8
     simp only [ref09_Same.l8] at h
     refine ze fun Z9 hZ9 => ?_
     refine rg tok [2, 3, 5, 51] fun K hK => ?_
     simp only [go_sem, rL, rE, rA, hz8]
     refine hK _ _ ?_
     refine zt rfl ?_
     refine zx ?_
     refine hZ5 _ _ ?_
     refine ze fun Z10 hZ10 => ?_
     refine rg tok [2, 3, 6] fun K hK => ?_
     simp only [go_sem, rL, rE]
     refine hK _ _ ?_
     refine zk ?_
     refine zs2 0 rfl fun hb13 => ?_
     replace hb13 : lN a0.fEntries ≤ 9223372036854775807 := hb13.2.2.2.1.1
     refine zy (fun m L τ => ∃ (p13 q13 : List GEntry) (x11 : Int), m = lN q13 ∧ L = ([(2, .op 0 0 0), (3, .op 1 0 0), (6, .int .i64 x11)] : List (Nat × AV)) ∧ τ = ([.cells 0 [.int .i64 a0.fKind, .int .i64 a0.fN, .str a0.fS, .ds true (fM encGEntry a0.fEntries) (lN a0.fEntries) false, .ds true (fM encGRaw a0.fRest) (lN a0.fRest) false], .cells 0 [.int .i64 a1.fKind, .int .i64 a1.fN, .str a1.fS, .ds true (fM encGEntry a1.fEntries) (lN a1.fEntries) false, .ds true (fM encGRaw a1.fRest) (lN a1.fRest) false]] : Store) ∧ a0.fEntries = p13 ++ q13 ∧ x11 = (lN p13 : Int) ∧ ref09_Same.l13 self_ref09_Same a1 q13 x11 = some r) _ ⟨[], a0.fEntries, 0, rfl, rfl, rfl, rfl, rfl, h⟩ .s ?_
     rintro m L τ ⟨p13, q13, x11, rfl, rfl, rfl, hE13, hi13, h⟩
     rcases q13 with _ | ⟨y13, q13⟩
     · have hz13 := zP hE13 hi13
       simp only [ref09_Same.l13] at h
       refine ze fun Z14 hZ14 => ?_
       refine rg tok [2, 3, 6, 69] fun K hK => ?_
       simp only [go_sem, rL, rE, rA, hz13]
       refine hK _ _ ?_
       refine zt rfl ?_
       refine zx ?_
       refine hZ10 _ _ ?_
       refine rg tok [4] fun K hK => ?_
       simp only [go_sem, rL, rE]
       refine hK _ _ ?_
       refine zj ?_
       obtain rfl := Option.some.inj h
       exact retA
     · obtain ⟨hz13, hw13, hx13, hE'13, hi'13⟩ := zI hE13 hi13 hb13
       simp only [ref09_Same.l13] at h
       refine ze fun Z15 hZ15 => ?_
       refine rg tok [2, 3, 6, 69] fun K hK => ?_
       simp only [go_sem, rL, rE, rA, hz13]
       refine hK _ _ ?_
       refine zv rfl ?_
       refine zi ?_
       refine hZ15 _ _ ?_
       refine ze fun Z16 hZ16 => ?_
       refine zk ?_
       have f17 := E40.idxS hx13
       have f18 := E40.loadS rfl rfl hx13
       obtain ⟨y19, hy19, h⟩ := bind_some h
       have f20 := E40.idxS hy19
       have f21 := E40.loadS rfl rfl hy19
       refine rd [2, 3, 6, 7, 8] fun K hK => ?_
       refine DW.start (T := tab) [.any, .own 2 [], .any, .any, .own 2 [], .any, .own 3 [], .any, .any, .own 3 [], .eff, .flt, .eff, .eff] [(2, []), (3, [])] ?_
       refine DW.runN tok 8 ?_
       simp only [go_sem, rL, rE, rA, cellsGEntry, zL, f17, f18]
       refine DW.runN tok 6 ?_
       simp only [go_sem, rL, rD, rE, rA, cellsGEntry, zL, f20, f21]
       refine DW.fin tok (by decide +kernel) rfl ?_
       simp only [zd, upd, rE, reduceIte, zl, zm]
       refine hK _ _ ?_
       refine ze fun Z22 hZ22 => ?_
       refine rc [2, 3, 6, 7, 8, 95] fun K hK => ?_
       refine za tok 6 ?_
       simp only [go_sem, rL, rE, rA]
       refine zo 8 (fun L τ => L = ([(2, .op 0 0 0), (3, .op 1 0 0), (6, .int .i64 x11), (7, .op 2 0 0), (8, .op 3 0 0), (95, .bool ((!(decide (y13.fTag = y19.fTag))) || (!(decide ((lN y13.fTrees : Int) = (lN y19.fTrees : Int))))))] : List (Nat × AV)) ∧ τ = ([.cells 0 [.int .i64 a0.fKind, .int .i64 a0.fN, .str a0.fS, .ds true (fM encGEntry a0.fEntries) (lN a0.fEntries) false, .ds true (fM encGRaw a0.fRest) (lN a0.fRest) false], .cells 0 [.int .i64 a1.fKind, .int .i64 a1.fN, .str a1.fS, .ds true (fM encGEntry a1.fEntries) (lN a1.fEntries) false, .ds true (fM encGRaw a1.fRest) (lN a1.fRest) false], .cells 0 [.int .i64 y13.fTag, .ds true (fM encGTree y13.fTrees) (lN y13.fTrees) false], .cells 0 [.int .i64 y19.fTag, .ds true (fM encGTree y19.fTrees) (lN y19.fTrees) false]] : Store)) ?_ ?_
       · refine zR 87 rfl (fun hg87 => ?_) (fun hg87 => ?_)
         · have t23 := eq_false hg87
           refine za tok 8 ?_
           simp only [go_sem, rL, rE]
           refine zb ⟨rfl, _, _, ⟨rfl, rfl⟩, .p t23⟩
         · have t24 := eq_true hg87
           refine za tok 8 ?_
           simp only [go_sem, rL, rE, rA]
           refine zb ⟨rfl, _, _, ⟨rfl, rfl⟩, .p t24⟩
       rintro _ _ ⟨rfl, rfl⟩
       refine zb ?_
       simp only [zd, rE, reduceIte, zl, zm]
       refine hK _ _ ?_
       refine zq (b := ((!(decide (y13.fTag = y19.fTag))) || (!(decide ((lN y13.fTrees : Int) = (lN y19.fTrees : Int)))))) rfl (fun hc25 => ?_) (fun hc25 => ?_)
       · rw [if_pos hc25] at h
         refine rg tok [4] fun K hK => ?_
         simp only [go_sem, rL, rE]
         refine hK _ _ ?_
         refine zj ?_
         obtain rfl := Option.some.inj h
         exact retA
       · rw [if_F hc25] at h
         refine zi ?_
         refine hZ22 _ _ ?_
         refine rg tok [2, 3, 6, 7, 8, 9] fun K hK => ?_
         simp only [go_sem, rL, rE]
         refine hK _ _ ?_
         refine zk ?_
         refine zs2 2 rfl fun hb28 => ?_
         replace hb28 : lN y13.fTrees ≤ 9223372036854775807 := hb28.2.1.1
         refine zy (fun m L τ => ∃ (p28 q28 : List GTree) (x26 : Int), m = lN q28 ∧ L = ([(2, .op 0 0 0), (3, .op 1 0 0), (6, .int .i64 x11), (7, .op 2 0 0), (8, .op 3 0 0), (9, .int .i64 x26)] : List (Nat × AV)) ∧ τ = ([.cells 0 [.int .i64 a0.fKind, .int .i64 a0.fN, .str a0.fS, .ds true (fM encGEntry a0.fEntries) (lN a0.fEntries) false, .ds true (fM encGRaw a0.fRest) (lN a0.fRest) false], .cells 0 [.int .i64 a1.fKind, .int .i64 a1.fN, .str a1.fS, .ds true (fM encGEntry a1.fEntries) (lN a1.fEntries) false, .ds true (fM encGRaw a1.fRest) (lN a1.fRest) false], .cells 0 [.int .i64 y13.fTag, .ds true (fM encGTree y13.fTrees) (lN y13.fTrees) false], .cells 0 [.int .i64 y19.fTag, .ds true (fM encGTree y19.fTrees) (lN y19.fTrees) false]] : Store) ∧ y13.fTrees = p28 ++ q28 ∧ x26 = (lN p28 : Int) ∧ ref09_Same.l28 self_ref09_Same x11 (ref09_Same.l13 self_ref09_Same a1 q13) y19 q28 x26 = some r) _ ⟨[], y13.fTrees, 0, rfl, rfl, rfl, rfl, rfl, h⟩ .s ?_
         rintro m L τ ⟨p28, q28, x26, rfl, rfl, rfl, hE28, hi28, h⟩
         rcases q28 with _ | ⟨y28, q28⟩
         · have hz28 := zP hE28 hi28
           simp only [ref09_Same.l28] at h
           refine ze fun Z29 hZ29 => ?_
           refine rg tok [2, 3, 6, 7, 8, 9, 100] fun K hK => ?_
           simp only [go_sem, rL, rE, rA, hz28]
           refine hK _ _ ?_
           refine zt rfl ?_
           refine zx ?_
           refine hZ16 _ _ ?_
           refine rgE tok [2, 3, 6] fun K hK => ?_
           simp only [go_sem, rL, rE, hw13]
           refine hK _ _ ?_
           exact ⟨_, _, _, nS q13.length, ⟨p13 ++ [y13], q13, x11 + 1, rfl, rfl, rfl, hE'13, hi'13, h⟩, (.t [0, 1] false)⟩
         · obtain ⟨hz28, hw28, hx28, hE'28, hi'28⟩ := zI hE28 hi28 hb28
           simp only [ref09_Same.l28] at h
           refine ze fun Z30 hZ30 => ?_
           refine rg tok [2, 3, 6, 7, 8, 9, 100] fun K hK => ?_
           simp only [go_sem, rL, rE, rA, hz28]
           refine hK _ _ ?_
           refine zv rfl ?_
           refine zi ?_
           refine hZ30 _ _ ?_
           refine ze fun Z31 hZ31 => ?_
           refine zk ?_
           have f32 := E59.idxS hx28
           have f33 := E59.loadS rfl rfl hx28
           obtain ⟨y34, hy34, h⟩ := bind_some h
           have f35 := E59.idxS hy34
           have f36 := E59.loadS rfl rfl hy34
           obtain ⟨r37, hr37, h⟩ := bind_some h
           refine rd [2, 3, 6, 7, 8, 9, 114] fun K hK => ?_
           refine DW.start (T := tab) [.any, .at [], .any, .any, .at [], .any, .at [], .any, .any, .at [], .eff, .any] [] ?_
           refine DW.runN tok 8 ?_
           simp only [go_sem, rL, rE, rA, cellsGTree, zW, f32, f33]
           refine DW.runN tok 2 ?_
           simp only [go_sem, rL, rE, cellsGTree, zW, f35, f36]
           refine DW.call rfl rfl rfl (ev_ref09_Same y28 y34 r37 hr37 _) ?_
           refine DW.runN tok 1 ?_
           simp only [go_sem, rL, rE]
           refine DW.fin tok (by decide +kernel) rfl ?_
           simp only [zd, upd, rE, reduceIte, zl, zm]
           refine hK _ _ ?_
           refine zq (b := (!r37)) rfl (fun hc38 => ?_) (fun hc38 => ?_)
           · rw [if_pos hc38] at h
             refine rg tok [4] fun K hK => ?_
             simp only [go_sem, rL, rE]
             refine hK _ _ ?_
             refine zj ?_
             obtain rfl := Option.some.inj h
             exact retA
           · rw [if_F hc38] at h
             refine zi ?_
             refine hZ31 _ _ ?_
             refine rgE tok [2, 3, 6, 7, 8, 9] fun K hK => ?_
             simp only [go_sem, rL, rE, hw28]
             refine hK _ _ ?_
             exact ⟨_, _, _, nS q28.length, ⟨p28 ++ [y28], q28, x26 + 1, rfl, rfl, rfl, hE'28, hi'28, h⟩, .s⟩
   · obtain ⟨hz8, hw8, hx8, hE'8, hi'8⟩ := zI hE8 hi8 hb8
     simp only [ref09_Same.l8] at h
     refine ze fun Z39 hZ39 => ?_
     refine rg tok [2, 3, 5, 51] fun K hK => ?_
     simp only [go_sem, rL, rE, rA, hz8]
     refine hK _ _ ?_
     refine zv rfl ?_
     refine zi ?_
     refine hZ39 _ _ ?_
     refine ze fun Z40 hZ40 => ?_
     refine zk ?_
     have f41 := E22.idxS hx8
     have f42 := E22.loadS rfl rfl hx8
     obtain ⟨y43, hy43, h⟩ := bind_some h
     have f44 := E22.idxS hy43
     have f45 := E22.loadS rfl rfl hy43
     refine rd [2, 3, 5, 64] fun K hK => ?_
     refine DW.start (T := tab) [.any, .at [], .any, .any, .at [], .any, .at [], .any, .any, .at [], .any] [] ?_
     refine DW.runN tok 8 ?_
     simp only [go_sem, rL, rE, rA, encGRaw, f41, f42]
     refine DW.runN tok 3 ?_
     simp only [go_sem, rL, rE, encGRaw, f44, f45, evEqA, ceqL, ceq]
     refine DW.fin tok (by decide +kernel) rfl ?_
     simp only [zd, upd, rE, reduceIte, zl, zm]
     refine hK _ _ ?_
     refine zq (b := (!(decide (y8.fTag = y43.fTag) && (decide (y8.fWire = y43.fWire) && (decide (y8.fN = y43.fN) && decide (y8.fB = y43.fB)))))) rfl (fun hc46 => ?_) (fun hc46 => ?_)
     · rw [if_pos hc46] at h
       refine rg tok [4] fun K hK => ?_
       simp only [go_sem, rL, rE]
       refine hK _ _ ?_
       refine zj ?_
       obtain rfl := Option.some.inj h
       exact retA
     · rw [if_F hc46] at h
       refine zi ?_
       refine hZ40 _ _ ?_
       refine rgE tok [2, 3, 5] fun K hK => ?_
       simp only [go_sem, rL, rE, hw8]
       refine hK _ _ ?_
       exact ⟨_, _, _, nS q8.length, ⟨p8 ++ [y8], q8, x6 + 1, rfl, rfl, rfl, hE'8, hi'8, h⟩, .s⟩
def ref09_Same : Nat → GTree → GTree → Option Bool
 | 0, _, _ => none
 | k + 1, a0, a1 => ref09_Same.body (ref09_Same k) a0 a1
theorem ref09_Same.all (k : Nat) : (∀ (a0 : GTree) (a1 : GTree) (r : Bool), ref09_Same k a0 a1 = some r → ACalls Tryd.prog 20 [.agg (cellsGTree a0), .agg (cellsGTree a1)] [] (fun r' _ => r' = .bool r)) := by
 induction k with
 | zero => exact (fun a0 a1 r h => by simp only [ref09_Same] at h; cases h)
 | succ k ih => exact (fun a0 a1 r h => ref09_Same.step _ ih a0 a1 r (by simpa only [ref09_Same] using h))
theorem ref09_Same.ev (k : Nat) (a0 : GTree) (a1 : GTree) (r : Bool) (h : ref09_Same k a0 a1 = some r) (σ : Store) : ACalls Tryd.prog 20 [.agg (cellsGTree a0), .agg (cellsGTree a1)] σ (fun r' σ' => r' = .bool r ∧ σ' = σ) :=
 ((ref09_Same.all k) a0 a1 r h).c σ
def law00_Few.l25 (x2 : Int) (x3 : Int) (rec6 : Int → Int → Option Bool) (y12 : GMessage) : List GField → Int → Option Bool
 | [], x23 => (rec6 (IntKind.i64.wrap (x2 + (lN y12.fName : Int))) (IntKind.i64.wrap (x3 + 1)))
 | y25 :: q25, x23 => (if ((decide (200 < (lN y25.fName : Int))) || (decide (200 < (lN y25.fType.fName : Int)))) = true then some false else ((law00_Few.l25 x2 x3 rec6 y12 q25) (x23 + 1)))
def law00_Few.l60 (x41 : Int) (rec43 : Int → Option Bool) : List GNamed → Int → Option Bool
 | [], x58 => (rec43 (IntKind.i64.wrap (x41 + 1)))
 | y60 :: q60, x58 => (if 200 < (lN y60.fName : Int) then some false else ((law00_Few.l60 x41 rec43 q60) (x58 + 1)))
def law00_Few.l78 (a0 : GSchema) (x2 : Int) : Nat → Int → Option Bool
 | 0, _ => none
 | k78 + 1, x76 => (if ((decide (x76 < (lN a0.fMethods : Int))) && (decide (x76 < 20))) = true then (idxL a0.fMethods x76).bind fun y84 => (if (((decide (200 < (lN y84.fName : Int))) || (decide (200 < (lN y84.fIn : Int)))) || (decide (200 < (lN y84.fOut : Int)))) = true then some false else ((law00_Few.l78 a0 x2 k78) (IntKind.i64.wrap (x76 + 1)))) else some ((((decide (x2 < 3000)) && (decide ((lN a0.fMessages : Int) ≤ 14))) && (decide ((lN a0.fEnums : Int) ≤ 10))) && (decide ((lN a0.fMethods : Int) ≤ 10))))
def law00_Few.l43 (a0 : GSchema) (x2 : Int) : Nat → Int → Option Bool
 | 0, _ => none
 | k43 + 1, x41 => (if ((decide (x41 < (lN a0.fEnums : Int))) && (decide (x41 < 20))) = true then (idxL a0.fEnums x41).bind fun y50 => (if ((decide (200 < (lN y50.fName : Int))) || (decide (24 < (lN y50.fValues : Int)))) = true then some false else (law00_Few.l60 x41 (law00_Few.l43 a0 x2 k43) y50.fValues 0)) else (law00_Few.l78 a0 x2 rounds 0))
def law00_Few.l6 (a0 : GSchema) : Nat → Int → Int → Option Bool
 | 0, _, _ => none
 | k6 + 1, x2, x3 => (if ((decide (x3 < (lN a0.fMessages : Int))) && (decide (x3 < 20))) = true then (idxL a0.fMessages x3).bind fun y12 => (if ((decide (20 < (lN y12.fFields : Int))) || (decide (40 < (lN y12.fReserved : Int)))) = true then some false else (law00_Few.l25 x2 x3 (law00_Few.l6 a0 k6) y12 y12.fFields 0)) else (law00_Few.l43 a0 x2 rounds 0))
def law00_Few (a0 : GSchema) : Option Bool :=
 (law00_Few.l6 a0 rounds (lN a0.fName : Int) 0)
theorem law00_Few.ok (a0 : GSchema) (r : Bool) (h : law00_Few a0 = some r) : ACalls Tryd.prog 22 [.agg (encGSchema a0)] [] (fun r' _ => r' = .bool r) := by
 refine zn (rs := [.tmp 2]) tok Tryd.func22 rfl Tryd.ntmps22 rfl Tryd.call22 (by simp) ?_
 refine zp [(0, .agg (encGSchema a0))] ⟨rfl, trivial⟩ ?_
 unfold law00_Few at h
 refine rg tok [1] fun K hK => ?_
 simp only [go_sem, rL, rE, rA, reduceCtorEq, encGSchema]
 refine hK _ _ ?_
 refine rg tok [1, 3] fun K hK => ?_
 simp only [go_sem, rL, rE, rA]
 refine hK _ _ ?_
 refine ze fun Z1 hZ1 => ?_
 refine rg tok [1, 3, 4] fun K hK => ?_
 simp only [go_sem, rL, rE]
 refine hK _ _ ?_
 refine zk ?_
 refine zy (fun m L τ => ∃ (k6 : Nat) (x2 : Int) (x3 : Int), m = 0 + k6 ∧ L = ([(1, .op 0 0 0), (3, .int .i64 x2), (4, .int .i64 x3)] : List (Nat × AV)) ∧ τ = ([.cells 0 [.str a0.fName, .ds true (fM encGMessage a0.fMessages) (lN a0.fMessages) false, .ds true (fM encGEnumeration a0.fEnums) (lN a0.fEnums) false, .ds true (fM encGMethod a0.fMethods) (lN a0.fMethods) false]] : Store) ∧ law00_Few.l6 a0 k6 x2 x3 = some r) _ ⟨rounds, (lN a0.fName : Int), 0, rfl, rfl, rfl, h⟩ .s ?_
 rintro m L τ ⟨k6, x2, x3, rfl, rfl, rfl, h⟩
 rcases k6 with _ | k6
 · cases h
 · simp only [law00_Few.l6] at h
   refine ze fun Z7 hZ7 => ?_
   refine rc [1, 3, 4, 21] fun K hK => ?_
   refine za tok 6 ?_
   simp only [go_sem, rL, rE, rA]
   refine zo 3 (fun L τ => L = ([(1, .op 0 0 0), (3, .int .i64 x2), (4, .int .i64 x3), (21, .bool ((decide (x3 < (lN a0.fMessages : Int))) && (decide (x3 < 20))))] : List (Nat × AV)) ∧ τ = ([.cells 0 [.str a0.fName, .ds true (fM encGMessage a0.fMessages) (lN a0.fMessages) false, .ds true (fM encGEnumeration a0.fEnums) (lN a0.fEnums) false, .ds true (fM encGMethod a0.fMethods) (lN a0.fMethods) false]] : Store)) ?_ ?_
   · refine zR 18 rfl (fun hg18 => ?_) (fun hg18 => ?_)
     · have t8 := eq_true hg18
       refine za tok 3 ?_
       simp only [go_sem, rL, rE]
       refine zb ⟨rfl, _, _, ⟨rfl, rfl⟩, .p t8⟩
     · have t9 := eq_false hg18
       refine za tok 3 ?_
       simp only [go_sem, rL, rE]
       refine zb ⟨rfl, _, _, ⟨rfl, rfl⟩, .p t9⟩
   rintro _ _ ⟨rfl, rfl⟩
   refine zb ?_
   simp only [zd, rE, reduceIte, zl, zm]
   refine hK _ _ ?_
   refine zq (b := ((decide (x3 < (lN a0.fMessages : Int))) && (decide (x3 < 20)))) rfl (fun hc10 => ?_) (fun hc10 => ?_)
   · rw [if_pos hc10] at h
     refine zi ?_
     refine hZ7 _ _ ?_
     refine ze fun Z11 hZ11 => ?_
     refine zk ?_
     obtain ⟨y12, hy12, h⟩ := bind_some h
     have f13 := E27.idxS hy12
     have f14 := E27.fldS0 (f := 9) rfl rfl hy12
     refine rg tok [1, 3, 4] fun K hK => ?_
     simp only [go_sem, rL, rE, rA, encGMessage, f13, f14]
     refine hK _ _ ?_
     refine ze fun Z15 hZ15 => ?_
     refine rc [1, 3, 4, 50] fun K hK => ?_
     have f16 := E27.idxS hy12
     have f17 := E27.fldS (f := 23) rfl rfl hy12 (o := 1) (by decide)
     refine za tok 9 ?_
     simp only [go_sem, rL, rE, rA, encGMessage, f16, f17]
     refine zo 9 (fun L τ => L = ([(1, .op 0 0 0), (3, .int .i64 (IntKind.i64.wrap (x2 + (lN y12.fName : Int)))), (4, .int .i64 x3), (50, .bool ((decide (20 < (lN y12.fFields : Int))) || (decide (40 < (lN y12.fReserved : Int)))))] : List (Nat × AV)) ∧ τ = ([.cells 0 [.str a0.fName, .ds true (fM encGMessage a0.fMessages) (lN a0.fMessages) false, .ds true (fM encGEnumeration a0.fEnums) (lN a0.fEnums) false, .ds true (fM encGMethod a0.fMethods) (lN a0.fMethods) false]] : Store)) ?_ ?_
     · refine zR 41 rfl (fun hg41 => ?_) (fun hg41 => ?_)
       · have t18 := eq_true hg41
         refine za tok 9 ?_
         simp only [go_sem, rL, rE]
         refine zb ⟨rfl, _, _, ⟨rfl, rfl⟩, .p t18⟩
       · have t19 := eq_false hg41
         have f20 := E27.idxS hy12
         have f21 := E27.fldS (f := 24) rfl rfl hy12 (o := 2) (by decide)
         refine za tok 9 ?_
         simp only [go_sem, rL, rE, rA, encGMessage, f20, f21]
         refine zb ⟨rfl, _, _, ⟨rfl, rfl⟩, .p t19⟩
     rintro _ _ ⟨rfl, rfl⟩
     refine zb ?_
     simp only [zd, rE, reduceIte, zl, zm]
     refine hK _ _ ?_
     refine zq (b := ((decide (20 < (lN y12.fFields : Int))) || (decide (40 < (lN y12.fReserved : Int))))) rfl (fun hc22 => ?_) (fun hc22 => ?_)
     · rw [if_pos hc22] at h
       refine rg tok [2] fun K hK => ?_
       simp only [go_sem, rL, rE]
       refine hK _ _ ?_
       refine zj ?_
       obtain rfl := Option.some.inj h
       exact retA
     · rw [if_F hc22] at h
       refine zi ?_
       refine hZ15 _ _ ?_
       refine rg tok [1, 3, 4, 5] fun K hK => ?_
       simp only [go_sem, rL, rE]
       refine hK _ _ ?_
       refine zk ?_
       refine zs2 0 rfl fun hb25 => ?_
       replace hb25 := deepL_idx hb25.2.1.2 hy12
       replace hb25 : lN y12.fFields ≤ 9223372036854775807 := hb25.2.1.1
       refine zy (fun m L τ => ∃ (p25 q25 : List GField) (x23 : Int), m = lN q25 ∧ L = ([(1, .op 0 0 0), (3, .int .i64 (IntKind.i64.wrap (x2 + (lN y12.fName : Int)))), (4, .int .i64 x3), (5, .int .i64 x23)] : List (Nat × AV)) ∧ τ = ([.cells 0 [.str a0.fName, .ds true (fM encGMessage a0.fMessages) (lN a0.fMessages) false, .ds true (fM encGEnumeration a0.fEnums) (lN a0.fEnums) false, .ds true (fM encGMethod a0.fMethods) (lN a0.fMethods) false]] : Store) ∧ y12.fFields = p25 ++ q25 ∧ x23 = (lN p25 : Int) ∧ law00_Few.l25 x2 x3 (law00_Few.l6 a0 k6) y12 q25 x23 = some r) _ ⟨[], y12.fFields, 0, rfl, rfl, rfl, rfl, rfl, h⟩ .s ?_
       rintro m L τ ⟨p25, q25, x23, rfl, rfl, rfl, hE25, hi25, h⟩
       rcases q25 with _ | ⟨y25, q25⟩
       · have hz25 := zP hE25 hi25
         simp only [law00_Few.l25] at h
         refine ze fun Z26 hZ26 => ?_
         have f27 := E27.idxS hy12
         have f28 := E27.fldS (f := 23) rfl rfl hy12 (o := 1) (by decide)
         refine rg tok [1, 3, 4, 5, 59] fun K hK => ?_
         simp only [go_sem, rL, rE, rA, encGMessage, hz25, f27, f28]
         refine hK _ _ ?_
         refine zt rfl ?_
         refine zx ?_
         refine hZ11 _ _ ?_
         refine rgE tok [1, 3, 4] fun K hK => ?_
         simp only [go_sem, rL, rE]
         refine hK _ _ ?_
         exact ⟨_, _, _, nS (0 + k6), ⟨k6, IntKind.i64.wrap (x2 + (lN y12.fName : Int)), IntKind.i64.wrap (x3 + 1), rfl, rfl, rfl, h⟩, .s⟩
       · obtain ⟨hz25, hw25, hx25, hE'25, hi'25⟩ := zI hE25 hi25 hb25
         simp only [law00_Few.l25] at h
         refine ze fun Z29 hZ29 => ?_
         have f30 := E27.idxS hy12
         have f31 := E27.fldS (f := 23) rfl rfl hy12 (o := 1) (by decide)
         refine rg tok [1, 3, 4, 5, 59] fun K hK => ?_
         simp only [go_sem, rL, rE, rA, encGMessage, hz25, f30, f31]
         refine hK _ _ ?_
         refine zv rfl ?_
         refine zi ?_
         refine hZ29 _ _ ?_
         refine ze fun Z32 hZ32 => ?_
         refine zk ?_
         have f33 := E27.idxS hy12
         have f34 := E27.fldS (f := 23) rfl rfl hy12 (o := 1) (by decide)
         have f35 := E23.idxS hx25
         have f36 := E23.loadS rfl rfl hx25
         refine rg tok [1, 3, 4, 5, 6] fun K hK => ?_
         simp only [go_sem, rL, rD, rE, rA, encGField, encGMessage, f33, f34, f35, f36]
         refine hK _ _ ?_
         refine rc [1, 3, 4, 5, 81] fun K hK => ?_
         refine za tok 5 ?_
         simp only [go_sem, rL, rE, rA]
         refine zo 6 (fun L τ => L = ([(1, .op 0 0 0), (3, .int .i64 (IntKind.i64.wrap (x2 + (lN y12.fName : Int)))), (4, .int .i64 x3), (5, .int .i64 x23), (81, .bool ((decide (200 < (lN y25.fName : Int))) || (decide (200 < (lN y25.fType.fName : Int)))))] : List (Nat × AV)) ∧ τ = ([.cells 0 [.str a0.fName, .ds true (fM encGMessage a0.fMessages) (lN a0.fMessages) false, .ds true (fM encGEnumeration a0.fEnums) (lN a0.fEnums) false, .ds true (fM encGMethod a0.fMethods) (lN a0.fMethods) false], .cells 0 [.str y25.fName, .int .i64 y25.fTag, .int .i64 y25.fLabel, .int .i64 y25.fType.fKind, .str y25.fType.fName]] : Store)) ?_ ?_
         · refine zR 75 rfl (fun hg75 => ?_) (fun hg75 => ?_)
           · have t37 := eq_true hg75
             refine za tok 6 ?_
             simp only [go_sem, rL, rE]
             refine zb ⟨rfl, _, _, ⟨rfl, rfl⟩, .p t37⟩
           · have t38 := eq_false hg75
             refine za tok 6 ?_
             simp only [go_sem, rL, rE, rA]
             refine zb ⟨rfl, _, _, ⟨rfl, rfl⟩, .p t38⟩
         rintro _ _ ⟨rfl, rfl⟩
         refine zb ?_
         simp only [zd, rE, reduceIte, zl, zm]
         refine hK _ _ ?_
         refine zq (b := ((decide (200 < (lN y25.fName : Int))) || (decide (200 < (lN y25.fType.fName : Int))))) rfl (fun hc39 => ?_) (fun hc39 => ?_)
         · rw [if_pos hc39] at h
           refine rg tok [2] fun K hK => ?_
           simp only [go_sem, rL, rE]
           refine hK _ _ ?_
           refine zj ?_
           obtain rfl := Option.some.inj h
           exact retA
         · rw [if_F hc39] at h
           refine zi ?_
           refine hZ32 _ _ ?_
           refine rgE tok [1, 3, 4, 5] fun K hK => ?_
           simp only [go_sem, rL, rE, hw25]
           refine hK _ _ ?_
           exact ⟨_, _, _, nS q25.length, ⟨p25 ++ [y25], q25, x23 + 1, rfl, rfl, rfl, hE'25, hi'25, h⟩, (.t [0] false)⟩
   · rw [if_F hc10] at h
     refine zx ?_
     refine hZ1 _ _ ?_
     refine ze fun Z40 hZ40 => ?_
     refine rg tok [1, 3, 7] fun K hK => ?_
     simp only [go_sem, rL, rE]
     refine hK _ _ ?_
     refine zk ?_
     refine zy (fun m L τ => ∃ (k43 : Nat) (x41 : Int), m = 0 + k43 ∧ L = ([(1, .op 0 0 0), (3, .int .i64 x2), (7, .int .i64 x41)] : List (Nat × AV)) ∧ τ = ([.cells 0 [.str a0.fName, .ds true (fM encGMessage a0.fMessages) (lN a0.fMessages) false, .ds true (fM encGEnumeration a0.fEnums) (lN a0.fEnums) false, .ds true (fM encGMethod a0.fMethods) (lN a0.fMethods) false]] : Store) ∧ law00_Few.l43 a0 x2 k43 x41 = some r) _ ⟨rounds, 0, rfl, rfl, rfl, h⟩ .s ?_
     rintro m L τ ⟨k43, x41, rfl, rfl, rfl, h⟩
     rcases k43 with _ | k43
     · cases h
     · simp only [law00_Few.l43] at h
       refine ze fun Z44 hZ44 => ?_
       refine rc [1, 3, 7, 90] fun K hK => ?_
       refine za tok 6 ?_
       simp only [go_sem, rL, rE, rA]
       refine zo 3 (fun L τ => L = ([(1, .op 0 0 0), (3, .int .i64 x2), (7, .int .i64 x41), (90, .bool ((decide (x41 < (lN a0.fEnums : Int))) && (decide (x41 < 20))))] : List (Nat × AV)) ∧ τ = ([.cells 0 [.str a0.fName, .ds true (fM encGMessage a0.fMessages) (lN a0.fMessages) false, .ds true (fM encGEnumeration a0.fEnums) (lN a0.fEnums) false, .ds true (fM encGMethod a0.fMethods) (lN a0.fMethods) false]] : Store)) ?_ ?_
       · refine zR 87 rfl (fun hg87 => ?_) (fun hg87 => ?_)
         · have t45 := eq_true hg87
           refine za tok 3 ?_
           simp only [go_sem, rL, rE]
           refine zb ⟨rfl, _, _, ⟨rfl, rfl⟩, .p t45⟩
         · have t46 := eq_false hg87
           refine za tok 3 ?_
           simp only [go_sem, rL, rE]
           refine zb ⟨rfl, _, _, ⟨rfl, rfl⟩, .p t46⟩
       rintro _ _ ⟨rfl, rfl⟩
       refine zb ?_
       simp only [zd, rE, reduceIte, zl, zm]
       refine hK _ _ ?_
       refine zq (b := ((decide (x41 < (lN a0.fEnums : Int))) && (decide (x41 < 20)))) rfl (fun hc47 => ?_) (fun hc47 => ?_)
       · rw [if_pos hc47] at h
         refine zi ?_
         refine hZ44 _ _ ?_
         refine ze fun Z48 hZ48 => ?_
         refine zk ?_
         refine ze fun Z49 hZ49 => ?_
         refine rc [1, 3, 7, 110] fun K hK => ?_
         obtain ⟨y50, hy50, h⟩ := bind_some h
         have f51 := E28.idxS hy50
         have f52 := E28.fldS0 (f := 9) rfl rfl hy50
         refine za tok 9 ?_
         simp only [go_sem, rL, rE, rA, encGEnumeration, f51, f52]
         refine zo 9 (fun L τ => L = ([(1, .op 0 0 0), (3, .int .i64 x2), (7, .int .i64 x41), (110, .bool ((decide (200 < (lN y50.fName : Int))) || (decide (24 < (lN y50.fValues : Int)))))] : List (Nat × AV)) ∧ τ = ([.cells 0 [.str a0.fName, .ds true (fM encGMessage a0.fMessages) (lN a0.fMessages) false, .ds true (fM encGEnumeration a0.fEnums) (lN a0.fEnums) false, .ds true (fM encGMethod a0.fMethods) (lN a0.fMethods) false]] : Store)) ?_ ?_
         · refine zR 101 rfl (fun hg101 => ?_) (fun hg101 => ?_)
           · have t53 := eq_true hg101
             refine za tok 9 ?_
             simp only [go_sem, rL, rE]
             refine zb ⟨rfl, _, _, ⟨rfl, rfl⟩, .p t53⟩
           · have t54 := eq_false hg101
             have f55 := E28.idxS hy50
             have f56 := E28.fldS (f := 88) rfl rfl hy50 (o := 1) (by decide)
             refine za tok 9 ?_
             simp only [go_sem, rL, rE, rA, encGEnumeration, f55, f56]
             refine zb ⟨rfl, _, _, ⟨rfl, rfl⟩, .p t54⟩
         rintro _ _ ⟨rfl, rfl⟩
         refine zb ?_
         simp only [zd, rE, reduceIte, zl, zm]
         refine hK _ _ ?_
         refine zq (b := ((decide (200 < (lN y50.fName : Int))) || (decide (24 < (lN y50.fValues : Int))))) rfl (fun hc57 => ?_) (fun hc57 => ?_)
         · rw [if_pos hc57] at h
           refine rg tok [2] fun K hK => ?_
           simp only [go_sem, rL, rE]
           refine hK _ _ ?_
           refine zj ?_
           obtain rfl := Option.some.inj h
           exact retA
         · rw [if_F hc57] at h
           refine zi ?_
           refine hZ49 _ _ ?_
           refine rg tok [1, 3, 7, 8] fun K hK => ?_
           simp only [go_sem, rL, rE]
           refine hK _ _ ?_
           refine zk ?_
           refine zs2 0 rfl fun hb60 => ?_
           replace hb60 := deepL_idx hb60.2.2.1.2 hy50
           replace hb60 : lN y50.fValues ≤ 9223372036854775807 := hb60.2.1.1
           refine zy (fun m L τ => ∃ (p60 q60 : List GNamed) (x58 : Int), m = lN q60 ∧ L = ([(1, .op 0 0 0), (3, .int .i64 x2), (7, .int .i64 x41), (8, .int .i64 x58)] : List (Nat × AV)) ∧ τ = ([.cells 0 [.str a0.fName, .ds true (fM encGMessage a0.fMessages) (lN a0.fMessages) false, .ds true (fM encGEnumeration a0.fEnums) (lN a0.fEnums) false, .ds true (fM encGMethod a0.fMethods) (lN a0.fMethods) false]] : Store) ∧ y50.fValues = p60 ++ q60 ∧ x58 = (lN p60 : Int) ∧ law00_Few.l60 x41 (law00_Few.l43 a0 x2 k43) q60 x58 = some r) _ ⟨[], y50.fValues, 0, rfl, rfl, rfl, rfl, rfl, h⟩ .s ?_
           rintro m L τ ⟨p60, q60, x58, rfl, rfl, rfl, hE60, hi60, h⟩
           rcases q60 with _ | ⟨y60, q60⟩
           · have hz60 := zP hE60 hi60
             simp only [law00_Few.l60] at h
             refine ze fun Z61 hZ61 => ?_
             have f62 := E28.idxS hy50
             have f63 := E28.fldS (f := 88) rfl rfl hy50 (o := 1) (by decide)
             refine rg tok [1, 3, 7, 8, 119] fun K hK => ?_
             simp only [go_sem, rL, rE, rA, encGEnumeration, hz60, f62, f63]
             refine hK _ _ ?_
             refine zt rfl ?_
             refine zx ?_
             refine hZ48 _ _ ?_
             refine rgE tok [1, 3, 7] fun K hK => ?_
             simp only [go_sem, rL, rE]
             refine hK _ _ ?_
             exact ⟨_, _, _, nS (0 + k43), ⟨k43, IntKind.i64.wrap (x41 + 1), rfl, rfl, rfl, h⟩, .s⟩
           · obtain ⟨hz60, hw60, hx60, hE'60, hi'60⟩ := zI hE60 hi60 hb60
             simp only [law00_Few.l60] at h
             refine ze fun Z64 hZ64 => ?_
             have f65 := E28.idxS hy50
             have f66 := E28.fldS (f := 88) rfl rfl hy50 (o := 1) (by decide)
             refine rg tok [1, 3, 7, 8, 119] fun K hK => ?_
             simp only [go_sem, rL, rE, rA, encGEnumeration, hz60, f65, f66]
             refine hK _ _ ?_
             refine zv rfl ?_
             refine zi ?_
             refine hZ64 _ _ ?_
             refine ze fun Z67 hZ67 => ?_
             refine zk ?_
             have f68 := E28.idxS hy50
             have f69 := E28.fldS (f := 88) rfl rfl hy50 (o := 1) (by decide)
             have f70 := E88.idxS hx60
             have f71 := E88.fldS0 (f := 9) rfl rfl hx60
             refine rg tok [1, 3, 7, 8, 133] fun K hK => ?_
             simp only [go_sem, rL, rE, rA, encGEnumeration, encGNamed, f68, f69, f70, f71]
             refine hK _ _ ?_
             refine zz rfl (fun hc72 => ?_) (fun hc72 => ?_)
             · rw [if_pos hc72] at h
               have t73 := eq_true hc72
               refine rg tok [2] fun K hK => ?_
               simp only [go_sem, rL, rE, t73]
               refine hK _ _ ?_
               refine zj ?_
               obtain rfl := Option.some.inj h
               exact retA
             · rw [if_neg hc72] at h
               have t74 := eq_false hc72
               refine zi ?_
               refine hZ67 _ _ ?_
               refine rgE tok [1, 3, 7, 8] fun K hK => ?_
               simp only [go_sem, rL, rE, hw60, t74]
               refine hK _ _ ?_
               exact ⟨_, _, _, nS q60.length, ⟨p60 ++ [y60], q60, x58 + 1, rfl, rfl, rfl, hE'60, hi'60, h⟩, .s⟩
       · rw [if_F hc47] at h
         refine zx ?_
         refine hZ40 _ _ ?_
         refine ze fun Z75 hZ75 => ?_
         refine rg tok [1, 3, 9] fun K hK => ?_
         simp only [go_sem, rL, rE]
         refine hK _ _ ?_
         refine zk ?_
         refine zy (fun m L τ => ∃ (k78 : Nat) (x76 : Int), m = 0 + k78 ∧ L = ([(1, .op 0 0 0), (3, .int .i64 x2), (9, .int .i64 x76)] : List (Nat × AV)) ∧ τ = ([.cells 0 [.str a0.fName, .ds true (fM encGMessage a0.fMessages) (lN a0.fMessages) false, .ds true (fM encGEnumeration a0.fEnums) (lN a0.fEnums) false, .ds true (fM encGMethod a0.fMethods) (lN a0.fMethods) false]] : Store) ∧ law00_Few.l78 a0 x2 k78 x76 = some r) _ ⟨rounds, 0, rfl, rfl, rfl, h⟩ .s ?_
         rintro m L τ ⟨k78, x76, rfl, rfl, rfl, h⟩
         rcases k78 with _ | k78
         · cases h
         · simp only [law00_Few.l78] at h
           refine ze fun Z79 hZ79 => ?_
           refine rc [1, 3, 9, 142] fun K hK => ?_
           refine za tok 6 ?_
           simp only [go_sem, rL, rE, rA]
           refine zo 3 (fun L τ => L = ([(1, .op 0 0 0), (3, .int .i64 x2), (9, .int .i64 x76), (142, .bool ((decide (x76 < (lN a0.fMethods : Int))) && (decide (x76 < 20))))] : List (Nat × AV)) ∧ τ = ([.cells 0 [.str a0.fName, .ds true (fM encGMessage a0.fMessages) (lN a0.fMessages) false, .ds true (fM encGEnumeration a0.fEnums) (lN a0.fEnums) false, .ds true (fM encGMethod a0.fMethods) (lN a0.fMethods) false]] : Store)) ?_ ?_
           · refine zR 139 rfl (fun hg139 => ?_) (fun hg139 => ?_)
             · have t80 := eq_true hg139
               refine za tok 3 ?_
               simp only [go_sem, rL, rE]
               refine zb ⟨rfl, _, _, ⟨rfl, rfl⟩, .p t80⟩
             · have t81 := eq_false hg139
               refine za tok 3 ?_
               simp only [go_sem, rL, rE]
               refine zb ⟨rfl, _, _, ⟨rfl, rfl⟩, .p t81⟩
           rintro _ _ ⟨rfl, rfl⟩
           refine zb ?_
           simp only [zd, rE, reduceIte, zl, zm]
           refine hK _ _ ?_
           refine zq (b := ((decide (x76 < (lN a0.fMethods : Int))) && (decide (x76 < 20)))) rfl (fun hc82 => ?_) (fun hc82 => ?_)
           · rw [if_pos hc82] at h
             refine zi ?_
             refine hZ79 _ _ ?_
             refine ze fun Z83 hZ83 => ?_
             refine zk ?_
             refine rc [1, 3, 9, 172] fun K hK => ?_
             obtain ⟨y84, hy84, h⟩ := bind_some h
             have f85 := E29.idxS hy84
             have f86 := E29.fldS0 (f := 9) rfl rfl hy84
             refine za tok 9 ?_
             simp only [go_sem, rL, rE, rA, encGMethod, f85, f86]
             refine zo 9 (fun L τ => L = ([(1, .op 0 0 0), (3, .int .i64 x2), (9, .int .i64 x76), (162, .bool ((decide (200 < (lN y84.fName : Int))) || (decide (200 < (lN y84.fIn : Int)))))] : List (Nat × AV)) ∧ τ = ([.cells 0 [.str a0.fName, .ds true (fM encGMessage a0.fMessages) (lN a0.fMessages) false, .ds true (fM encGEnumeration a0.fEnums) (lN a0.fEnums) false, .ds true (fM encGMethod a0.fMethods) (lN a0.fMethods) false]] : Store)) ?_ ?_
             · refine zR 153 rfl (fun hg153 => ?_) (fun hg153 => ?_)
               · have t87 := eq_true hg153
                 refine za tok 9 ?_
                 simp only [go_sem, rL, rE]
                 refine zb ⟨rfl, _, _, ⟨rfl, rfl⟩, .p t87⟩
               · have t88 := eq_false hg153
                 have f89 := E29.idxS hy84
                 have f90 := E29.fldS (f := 9) rfl rfl hy84 (o := 1) (by decide)
                 refine za tok 9 ?_
                 simp only [go_sem, rL, rE, rA, encGMethod, f89, f90]
                 refine zb ⟨rfl, _, _, ⟨rfl, rfl⟩, .p t88⟩
             rintro _ _ ⟨rfl, rfl⟩
             refine za tok 1 ?_
             simp only [go_sem, rL, rE]
             refine zo 9 (fun L τ => L = ([(1, .op 0 0 0), (3, .int .i64 x2), (9, .int .i64 x76), (172, .bool (((decide (200 < (lN y84.fName : Int))) || (decide (200 < (lN y84.fIn : Int)))) || (decide (200 < (lN y84.fOut : Int)))))] : List (Nat × AV)) ∧ τ = ([.cells 0 [.str a0.fName, .ds true (fM encGMessage a0.fMessages) (lN a0.fMessages) false, .ds true (fM encGEnumeration a0.fEnums) (lN a0.fEnums) false, .ds true (fM encGMethod a0.fMethods) (lN a0.fMethods) false]] : Store)) ?_ ?_
             · refine zH (b := ((decide (200 < (lN y84.fName : Int))) || (decide (200 < (lN y84.fIn : Int))))) 163 rfl (fun hg163 => ?_) (fun hg163 => ?_)
               · refine za tok 9 ?_
                 simp only [go_sem, rL, rE]
                 refine zb ⟨rfl, _, _, ⟨rfl, rfl⟩, .b hg163⟩
               · have f91 := E29.idxS hy84
                 have f92 := E29.fldS (f := 9) rfl rfl hy84 (o := 2) (by decide)
                 refine za tok 9 ?_
                 simp only [go_sem, rL, rE, rA, encGMethod, f91, f92]
                 refine zb ⟨rfl, _, _, ⟨rfl, rfl⟩, .b hg163⟩
             rintro _ _ ⟨rfl, rfl⟩
             refine zb ?_
             simp only [zd, rE, reduceIte, zl, zm]
             refine hK _ _ ?_
             refine zq (b := (((decide (200 < (lN y84.fName : Int))) || (decide (200 < (lN y84.fIn : Int)))) || (decide (200 < (lN y84.fOut : Int))))) rfl (fun hc93 => ?_) (fun hc93 => ?_)
             · rw [if_pos hc93] at h
               refine rg tok [2] fun K hK => ?_
               simp only [go_sem, rL, rE]
               refine hK _ _ ?_
               refine zj ?_
               obtain rfl := Option.some.inj h
               exact retA
             · rw [if_F hc93] at h
               refine zi ?_
               refine hZ83 _ _ ?_
               refine rgE tok [1, 3, 9] fun K hK => ?_
               simp only [go_sem, rL, rE]
               refine hK _ _ ?_
               exact ⟨_, _, _, nS (0 + k78), ⟨k78, IntKind.i64.wrap (x76 + 1), rfl, rfl, rfl, h⟩, .s⟩
           · rw [if_F hc82] at h
             refine zx ?_
             refine hZ75 _ _ ?_
             refine rc [2] fun K hK => ?_
             refine za tok 3 ?_
             simp only [go_sem, rL, rE]
             refine zo 5 (fun L τ => L = ([(1, .op 0 0 0), (180, .bool ((decide (x2 < 3000)) && (decide ((lN a0.fMessages : Int) ≤ 14))))] : List (Nat × AV)) ∧ τ = ([.cells 0 [.str a0.fName, .ds true (fM encGMessage a0.fMessages) (lN a0.fMessages) false, .ds true (fM encGEnumeration a0.fEnums) (lN a0.fEnums) false, .ds true (fM encGMethod a0.fMethods) (lN a0.fMethods) false]] : Store)) ?_ ?_
             · refine zR 175 rfl (fun hg175 => ?_) (fun hg175 => ?_)
               · have t94 := eq_true hg175
                 refine za tok 5 ?_
                 simp only [go_sem, rL, rE, rA]
                 refine zb ⟨rfl, _, _, ⟨rfl, rfl⟩, .p t94⟩
               · have t95 := eq_false hg175
                 refine za tok 5 ?_
                 simp only [go_sem, rL, rE]
                 refine zb ⟨rfl, _, _, ⟨rfl, rfl⟩, .p t95⟩
             rintro _ _ ⟨rfl, rfl⟩
             refine za tok 1 ?_
             simp only [go_sem, rL, rE]
             refine zo 5 (fun L τ => L = ([(1, .op 0 0 0), (186, .bool (((decide (x2 < 3000)) && (decide ((lN a0.fMessages : Int) ≤ 14))) && (decide ((lN a0.fEnums : Int) ≤ 10))))] : List (Nat × AV)) ∧ τ = ([.cells 0 [.str a0.fName, .ds true (fM encGMessage a0.fMessages) (lN a0.fMessages) false, .ds true (fM encGEnumeration a0.fEnums) (lN a0.fEnums) false, .ds true (fM encGMethod a0.fMethods) (lN a0.fMethods) false]] : Store)) ?_ ?_
             · refine zH (b := ((decide (x2 < 3000)) && (decide ((lN a0.fMessages : Int) ≤ 14)))) 181 rfl (fun hg181 => ?_) (fun hg181 => ?_)
               · refine za tok 5 ?_
                 simp only [go_sem, rL, rE, rA]
                 refine zb ⟨rfl, _, _, ⟨rfl, rfl⟩, .b hg181⟩
               · refine za tok 5 ?_
                 simp only [go_sem, rL, rE]
                 refine zb ⟨rfl, _, _, ⟨rfl, rfl⟩, .b hg181⟩
             rintro _ _ ⟨rfl, rfl⟩
             refine za tok 1 ?_
             simp only [go_sem, rL, rE]
             refine zo 5 (fun L τ => L = ([(192, .bool ((((decide (x2 < 3000)) && (decide ((lN a0.fMessages : Int) ≤ 14))) && (decide ((lN a0.fEnums : Int) ≤ 10))) && (decide ((lN a0.fMethods : Int) ≤ 10))))] : List (Nat × AV)) ∧ τ = ([.cells 0 [.str a0.fName, .ds true (fM encGMessage a0.fMessages) (lN a0.fMessages) false, .ds true (fM encGEnumeration a0.fEnums) (lN a0.fEnums) false, .ds true (fM encGMethod a0.fMethods) (lN a0.fMethods) false]] : Store)) ?_ ?_
             · refine zH (b := (((decide (x2 < 3000)) && (decide ((lN a0.fMessages : Int) ≤ 14))) && (decide ((lN a0.fEnums : Int) ≤ 10)))) 187 rfl (fun hg187 => ?_) (fun hg187 => ?_)
               · refine za tok 5 ?_
                 simp only [go_sem, rL, rE, rA]
                 refine zb ⟨rfl, _, _, ⟨rfl, rfl⟩, .b hg187⟩
               · refine za tok 5 ?_
                 simp only [go_sem, rL, rE]
                 refine zb ⟨rfl, _, _, ⟨rfl, rfl⟩, .b hg187⟩
             rintro _ _ ⟨rfl, rfl⟩
             refine za tok 1 ?_
             simp only [go_sem, rL]
             refine zb ?_
             simp only [zd, upd, rE, reduceIte, zl, zm]
             refine hK _ _ ?_
             refine zj ?_
             obtain rfl := Option.some.inj h
             exact retA
theorem law00_Few.ev (a0 : GSchema) (r : Bool) (h : law00_Few a0 = some r) (σ : Store) : ACalls Tryd.prog 22 [.agg (encGSchema a0)] σ (fun r' σ' => r' = .bool r ∧ σ' = σ) :=
 (law00_Few.ok a0 r h).c σ
def law00_Ints (a0 : List Int) : Option (List Int) :=
 (room (lN a0) 8).bind fun _u2 => some a0
theorem law00_Ints.own (a0 : List Int) (r : List Int) (h : law00_Ints a0 = some r) : ACalls Tryd.prog 46 [.ds true (fM encI a0) (lN a0) false] [] (fun r' σ' => r' = .os true 1 0 0 0 (lN r) false ∧ σ' = [.cells 0 (fM encI r)]) := by
 refine ACalls.own0 (by simp only [push_cast]) ?_
 refine zT2 (rs := [.tmp 2]) tok Tryd.func46 rfl Tryd.ntmps46 rfl Tryd.call46 (by simp) ?_
 refine zp [(0, .ds true (fM encI a0) (lN a0) false)] ⟨rfl, trivial⟩ ?_
 unfold law00_Ints at h
 refine rg tok [0] fun K hK => ?_
 simp only [go_sem, rL, reduceCtorEq]
 refine hK _ _ ?_
 have f1 := fun nl tt σ => zi1 E24.len a0 nl tt σ
 obtain ⟨_u2, hu2, h⟩ := bind_some h
 have gu2 := zQ hu2
 refine rg tok [2] fun K hK => ?_
 simp only [go_sem, rL, rE, reduceCtorEq, zJ, zF, zK, true_and, f1, gu2, zi2, nA, lZ, nZ]
 refine hK _ _ ?_
 refine zM (L := [(2, .os true 1 0 0 0 (lN a0) false)]) (τ := [.cells 0 (fM encI a0)]) .s ?_
 refine zj ?_
 obtain rfl := Option.some.inj h
 simp only [retQ, zT, zX, zm1, exists_eq_left', go_sem]
 refine ⟨0, 0, by simp, ?_, ?_⟩
 · first | rfl | (simp only [go_sem, rL, rD, rE, rA, rM, rS, reduceIte, reduceCtorEq, push_cast, if_true, dZ, nZ, mC, mN, mP, Bool.or_true, Bool.or_false, Bool.and_true, Bool.and_false, Bool.not_true, Bool.not_false, zA] <;> rfl)
 · first | rfl | (simp only [go_sem, push_cast, mN, zA] <;> rfl)
theorem law00_Ints.ok (a0 : List Int) (r : List Int) (h : law00_Ints a0 = some r) : ACalls Tryd.prog 46 [.ds true (fM encI a0) (lN a0) false] [] (fun r' _ => r' = .ds true (fM encI r) (lN r) false) :=
 (law00_Ints.own a0 r h).ownData (zw E24.len r) (by simp only [push_cast])
theorem law00_Ints.ev (a0 : List Int) (r : List Int) (h : law00_Ints a0 = some r) (σ : Store) : ACalls Tryd.prog 46 [.ds true (fM encI a0) (lN a0) false] σ (fun r' σ' => r' = .ds true (fM encI r) (lN r) false ∧ σ' = σ) :=
 (law00_Ints.ok a0 r h).c σ
def law00_Schema.l19 (a0 : GSchema) (l4 : List GMessage) : List GEnumeration → Int → List GEnumeration → Option GSchema
 | [], x15, l13 => some (⟨a0.fName, l4, l13, a0.fMethods⟩ : GSchema)
 | y19 :: q19, x15, l13 => (room (lN y19.fValues) 24).bind fun _u28 => (room (lN l13 + 1) 40).bind fun _u29 => ((law00_Schema.l19 a0 l4 q19) (x15 + 1) (l13 ++ [(⟨y19.fName, y19.fValues⟩ : GEnumeration)]))
def law00_Schema.l10 (a0 : GSchema) : List GMessage → Int → List GMessage → Option GSchema
 | [], x6, l4 => (law00_Schema.l19 a0 l4 a0.fEnums 0 ([] : List GEnumeration))
 | y10 :: q10, x6, l4 => (room (lN y10.fFields) 56).bind fun _u36 => (law00_Ints y10.fReserved).bind fun r37 => (room (lN l4 + 1) 64).bind fun _u38 => ((law00_Schema.l10 a0 q10) (x6 + 1) (l4 ++ [(⟨y10.fName, y10.fFields, r37⟩ : GMessage)]))
def law00_Schema (a0 : GSchema) : Option GSchema :=
 (room (lN a0.fMethods) 48).bind fun _u2 => (law00_Schema.l10 a0 a0.fMessages 0 ([] : List GMessage))
theorem law00_Schema.ok (a0 : GSchema) (r : GSchema) (h : law00_Schema a0 = some r) : ACalls Tryd.prog 26 [.agg (encGSchema a0)] [] (fun r' _ => r' = .agg (encGSchema r)) := by
 refine zn (rs := [.cell 2 31]) tok Tryd.func26 rfl Tryd.ntmps26 rfl Tryd.call26 (by simp) ?_
 refine zp [(0, .agg (encGSchema a0))] ⟨rfl, trivial⟩ ?_
 unfold law00_Schema at h
 refine rg tok [1, 2] fun K hK => ?_
 simp only [go_sem, rL, rE, rA, reduceCtorEq, encGSchema]
 refine hK _ _ ?_
 have f1 := fun nl tt σ => zi1 E29.len a0.fMethods nl tt σ
 obtain ⟨_u2, hu2, h⟩ := bind_some h
 have gu2 := zQ hu2
 refine rd [1, 2, 3] fun K hK => ?_
 refine DW.start (T := tab) [.any, .own 2 [], .any, .at [], .eff, .any, .flt, .eff] [(2, [])] ?_
 refine DW.runN tok 8 ?_
 simp only [go_sem, rL, rD, rE, rA, zJ, zF, zK, true_and, encGSchema, f1, gu2, zi2, List.all_nil, List.all_cons, AV.one, Bool.and_self, nA, lC, lZ, nZ, cA]
 refine DW.fin tok (by decide +kernel) rfl ?_
 simp only [zd, upd, rE, reduceIte, zl, zm]
 refine hK _ _ ?_
 refine zr2 3 1 3 rfl (by simp) rfl (L := [(1, .op 0 0 0), (2, .op 1 0 0), (3, .op 3 0 0)]) (τ := [.cells 0 [.str a0.fName, .ds true (fM encGMessage a0.fMessages) (lN a0.fMessages) false, .ds true (fM encGEnumeration a0.fEnums) (lN a0.fEnums) false, .ds true (fM encGMethod a0.fMethods) (lN a0.fMethods) false], .cells 0 [.str [], .ds true [] 0 true, .ds true [] 0 true, .ds true [] 0 true], .cells 0 (fM encGMethod a0.fMethods), .cells 0 [.str a0.fName, .os true 3 4 0 0 (lN ([] : List GMessage)) false, .ds true [] 0 true, .os true 3 2 0 0 (lN a0.fMethods) false], .cells 0 (fM encGMessage ([] : List GMessage))]) .s ?_
 refine zr2 3 2 2 rfl (by simp) rfl (L := [(1, .op 0 0 0), (2, .op 1 0 0), (3, .op 3 0 0)]) (τ := [.cells 0 [.str a0.fName, .ds true (fM encGMessage a0.fMessages) (lN a0.fMessages) false, .ds true (fM encGEnumeration a0.fEnums) (lN a0.fEnums) false, .ds true (fM encGMethod a0.fMethods) (lN a0.fMethods) false], .cells 0 [.str [], .ds true [] 0 true, .ds true [] 0 true, .ds true [] 0 true], .cells 0 (fM encGMethod a0.fMethods), .cells 0 [.str a0.fName, .os true 3 4 0 0 (lN ([] : List GMessage)) false, .os true 2 5 0 0 (lN ([] : List GEnumeration)) false, .os true 3 2 0 0 (lN a0.fMethods) false], .cells 0 (fM encGMessage ([] : List GMessage)), .cells 0 (fM encGEnumeration ([] : List GEnumeration))]) .s ?_
 refine zM (L := [(1, .op 0 0 0), (2, .op 1 0 0), (3, .op 3 0 0)]) (τ := [.cells 0 [.str a0.fName, .ds true (fM encGMessage a0.fMessages) (lN a0.fMessages) false, .ds true (fM encGEnumeration a0.fEnums) (lN a0.fEnums) false, .ds true (fM encGMethod a0.fMethods) (lN a0.fMethods) false], .cells 0 [.str [], .ds true [] 0 true, .ds true [] 0 true, .ds true [] 0 true], .cells 0 (fM encGMethod a0.fMethods), .cells 0 [.str a0.fName, .os true 3 4 0 0 (lN ([] : List GMessage)) false, .os true 2 5 0 0 (lN ([] : List GEnumeration)) false, .os true 3 2 0 0 (lN a0.fMethods) false], .cells 0 (fM encGMessage ([] : List GMessage)), .cells 0 (fM encGEnumeration ([] : List GEnumeration))]) .s ?_
 refine ze fun Z3 hZ3 => ?_
 refine rg tok [1, 2, 3, 4] fun K hK => ?_
 simp only [go_sem, rL, rE]
 refine hK _ _ ?_
 refine zk ?_
 refine zs2 0 rfl fun hb10 => ?_
 replace hb10 : lN a0.fMessages ≤ 9223372036854775807 := hb10.2.1.1
 refine zy (fun m L τ => ∃ (p10 q10 : List GMessage) (x6 : Int) (l4 : List GMessage) (v5 : Nat), m = lN q10 ∧ L = ([(1, .op 0 0 0), (2, .op 1 0 0), (3, .op 3 0 0), (4, .int .i64 x6)] : List (Nat × AV)) ∧ τ = ([.cells 0 [.str a0.fName, .ds true (fM encGMessage a0.fMessages) (lN a0.fMessages) false, .ds true (fM encGEnumeration a0.fEnums) (lN a0.fEnums) false, .ds true (fM encGMethod a0.fMethods) (lN a0.fMethods) false], .cells 0 [.str [], .ds true [] 0 true, .ds true [] 0 true, .ds true [] 0 true], .cells 0 (fM encGMethod a0.fMethods), .cells 0 [.str a0.fName, .os true 3 4 v5 0 (lN l4) false, .os true 2 5 0 0 (lN ([] : List GEnumeration)) false, .os true 3 2 0 0 (lN a0.fMethods) false], .cells v5 (fM encGMessage l4), .cells 0 (fM encGEnumeration ([] : List GEnumeration))] : Store) ∧ a0.fMessages = p10 ++ q10 ∧ x6 = (lN p10 : Int) ∧ law00_Schema.l10 a0 q10 x6 l4 = some r) _ ⟨[], a0.fMessages, 0, ([] : List GMessage), 0, rfl, rfl, rfl, rfl, rfl, h⟩ .s ?_
 rintro m L τ ⟨p10, q10, x6, l4, v5, rfl, rfl, rfl, hE10, hi10, h⟩
 rcases q10 with _ | ⟨y10, q10⟩
 · have hz10 := zP hE10 hi10
   simp only [law00_Schema.l10] at h
   refine ze fun Z11 hZ11 => ?_
   refine rg tok [1, 2, 3, 4, 17] fun K hK => ?_
   simp only [go_sem, rL, rE, rA, hz10]
   refine hK _ _ ?_
   refine zt rfl ?_
   refine zx ?_
   refine hZ3 _ _ ?_
   refine ze fun Z12 hZ12 => ?_
   refine rg tok [1, 2, 3, 6] fun K hK => ?_
   simp only [go_sem, rL, rE]
   refine hK _ _ ?_
   refine zk ?_
   refine zs2 0 rfl fun hb19 => ?_
   replace hb19 : lN a0.fEnums ≤ 9223372036854775807 := hb19.2.2.1.1
   refine zy (fun m L τ => ∃ (p19 q19 : List GEnumeration) (x15 : Int) (l13 : List GEnumeration) (v14 : Nat), m = lN q19 ∧ L = ([(1, .op 0 0 0), (2, .op 1 0 0), (3, .op 3 0 0), (6, .int .i64 x15)] : List (Nat × AV)) ∧ τ = ([.cells 0 [.str a0.fName, .ds true (fM encGMessage a0.fMessages) (lN a0.fMessages) false, .ds true (fM encGEnumeration a0.fEnums) (lN a0.fEnums) false, .ds true (fM encGMethod a0.fMethods) (lN a0.fMethods) false], .cells 0 [.str [], .ds true [] 0 true, .ds true [] 0 true, .ds true [] 0 true], .cells 0 (fM encGMethod a0.fMethods), .cells 0 [.str a0.fName, .os true 3 4 v5 0 (lN l4) false, .os true 2 5 v14 0 (lN l13) false, .os true 3 2 0 0 (lN a0.fMethods) false], .cells v5 (fM encGMessage l4), .cells v14 (fM encGEnumeration l13)] : Store) ∧ a0.fEnums = p19 ++ q19 ∧ x15 = (lN p19 : Int) ∧ law00_Schema.l19 a0 l4 q19 x15 l13 = some r) _ ⟨[], a0.fEnums, 0, ([] : List GEnumeration), 0, rfl, rfl, rfl, rfl, rfl, h⟩ .s ?_
   rintro m L τ ⟨p19, q19, x15, l13, v14, rfl, rfl, rfl, hE19, hi19, h⟩
   rcases q19 with _ | ⟨y19, q19⟩
   · have hz19 := zP hE19 hi19
     simp only [law00_Schema.l19] at h
     refine ze fun Z20 hZ20 => ?_
     refine rg tok [1, 2, 3, 6, 43] fun K hK => ?_
     simp only [go_sem, rL, rE, rA, hz19]
     refine hK _ _ ?_
     refine zt rfl ?_
     refine zx ?_
     refine hZ12 _ _ ?_
     refine rg tok [2] fun K hK => ?_
     simp only [go_sem, rL, rD, rE, rA]
     refine hK _ _ ?_
     refine zj ?_
     obtain rfl := Option.some.inj h
     exact retA
   · obtain ⟨hz19, hw19, hx19, hE'19, hi'19⟩ := zI hE19 hi19 hb19
     simp only [law00_Schema.l19] at h
     refine ze fun Z21 hZ21 => ?_
     refine rg tok [1, 2, 3, 6, 43] fun K hK => ?_
     simp only [go_sem, rL, rE, rA, hz19]
     refine hK _ _ ?_
     refine zv rfl ?_
     refine zi ?_
     refine hZ21 _ _ ?_
     refine ze fun Z22 hZ22 => ?_
     refine zk ?_
     have f23 := E28.idxS hx19
     have f24 := E28.fldS0 (f := 9) rfl rfl hx19
     have f25 := E28.idxS hx19
     have f26 := E28.fldS (f := 88) rfl rfl hx19 (o := 1) (by decide)
     have f27 := fun nl tt σ => zi1 E88.len y19.fValues nl tt σ
     obtain ⟨_u28, hu28, h⟩ := bind_some h
     have gu28 := zQ hu28
     obtain ⟨_u29, hu29, h⟩ := bind_some h
     have gu29 := zQ hu29
     have f30 := (zw E28.len l13)
     refine rdE [1, 2, 3, 6] fun K hK => ?_
     refine DW.start (T := tab) [.any, .own 2 [], .any, .own 1 [], .any, .any, .any, .own 1 [], .any, .at [], .any, .any, .any, .at [], .eff, .any, .eff, .eff, .any, .eff] [(2, []), (1, [])] ?_
     refine DW.runN tok 8 ?_
     simp only [go_sem, rL, rE, rA, encGEnumeration, encGSchema, f23, f24, lC, lZ, nZ]
     refine DW.runN tok 8 ?_
     simp only [go_sem, rL, rD, rE, rA, zJ, zF, zK, true_and, encGEnumeration, f23, f26, f27, gu28, zi2, List.all_nil, List.all_cons, AV.one, Bool.and_self, nA, lC, lZ, nZ, cA]
     refine DW.runN tok 4 ?_
     simp only [go_sem, rL, rD, rE, rA, rM, zB, zG, List.range_succ, List.range_zero, true_and, Nat.reduceMod, zJ, zF, zK, gu29, f30, List.all_nil, List.all_cons, AV.one, Bool.and_self, nA, lC, lZ, nZ, cA, zZ]
     refine DW.fin tok (by decide +kernel) rfl ?_
     simp only [zd, upd, rE, reduceIte, zl, zm]
     refine hK _ _ ?_
     refine hZ22 _ _ ?_
     refine rgE tok [1, 2, 3, 6] fun K hK => ?_
     simp only [go_sem, rL, rE, hw19]
     refine hK _ _ ?_
     exact ⟨_, _, _, nS q19.length, ⟨p19 ++ [y19], q19, x15 + 1, l13 ++ [(⟨y19.fName, y19.fValues⟩ : GEnumeration)], v14 + 1, rfl, rfl, rfl, hE'19, hi'19, h⟩, (.t [0, 1, 2, 3, 4, 5] false)⟩
 · obtain ⟨hz10, hw10, hx10, hE'10, hi'10⟩ := zI hE10 hi10 hb10
   simp only [law00_Schema.l10] at h
   refine ze fun Z31 hZ31 => ?_
   refine rg tok [1, 2, 3, 4, 17] fun K hK => ?_
   simp only [go_sem, rL, rE, rA, hz10]
   refine hK _ _ ?_
   refine zv rfl ?_
   refine zi ?_
   refine hZ31 _ _ ?_
   refine ze fun Z32 hZ32 => ?_
   refine zk ?_
   have f33 := E27.idxS hx10
   have f34 := E27.loadS rfl rfl hx10
   refine rg tok [1, 2, 3, 4, 5] fun K hK => ?_
   simp only [go_sem, rL, rD, rE, rA, encGMessage, f33, f34]
   refine hK _ _ ?_
   have f35 := fun nl tt σ => zi1 E23.len y10.fFields nl tt σ
   obtain ⟨_u36, hu36, h⟩ := bind_some h
   have gu36 := zQ hu36
   obtain ⟨r37, hr37, h⟩ := bind_some h
   obtain ⟨_u38, hu38, h⟩ := bind_some h
   have gu38 := zQ hu38
   have f39 := (zw E27.len l4)
   refine rdE [1, 2, 3, 4] fun K hK => ?_
   refine DW.start (T := tab) [.any, .own 3 [], .any, .own 2 [], .any, .at [], .eff, .any, .own 1 [], .eff, .any, .eff, .eff, .any, .eff] [(3, []), (2, []), (1, [])] ?_
   refine DW.runN tok 8 ?_
   simp only [go_sem, rL, rD, rE, rA, zJ, zF, zK, true_and, encGSchema, f35, gu36, zi2, fZ, nA, lC, lZ, nZ, cA]
   refine DW.runN tok 1 ?_
   simp only [go_sem, rL, rE, rA, lC, lZ, nZ]
   refine DW.call rfl rfl rfl (law00_Ints.ev y10.fReserved r37 hr37 _) ?_
   refine DW.runN tok 5 ?_
   simp only [go_sem, rL, rD, rE, rA, rM, zB, zG, List.range_succ, List.range_zero, true_and, Nat.reduceMod, zJ, zF, zK, gu38, f39, List.all_nil, List.all_cons, AV.one, Bool.and_self, nA, lC, lZ, nZ, cA, zZ]
   refine DW.fin tok (by decide +kernel) rfl ?_
   simp only [zd, upd, rE, reduceIte, zl, zm]
   refine hK _ _ ?_
   refine hZ32 _ _ ?_
   refine rgE tok [1, 2, 3, 4] fun K hK => ?_
   simp only [go_sem, rL, rE, hw10]
   refine hK _ _ ?_
   exact ⟨_, _, _, nS q10.length, ⟨p10 ++ [y10], q10, x6 + 1, l4 ++ [(⟨y10.fName, y10.fFields, r37⟩ : GMessage)], v5 + 1, rfl, rfl, rfl, hE'10, hi'10, h⟩, (.t [0, 1, 2, 3, 4, 5] false)⟩
theorem law00_Schema.ev (a0 : GSchema) (r : GSchema) (h : law00_Schema a0 = some r) (σ : Store) : ACalls Tryd.prog 26 [.agg (encGSchema a0)] σ (fun r' σ' => r' = .agg (encGSchema r) ∧ σ' = σ) :=
 (law00_Schema.ok a0 r h).c σ
def law00_Bytes (a0 : List UInt8) : Option (List UInt8) :=
 (room (lN a0) 1).bind fun _u2 => some a0
theorem law00_Bytes.own (a0 : List UInt8) (r : List UInt8) (h : law00_Bytes a0 = some r) : ACalls Tryd.prog 29 [.ds true (fM encB a0) (lN a0) false] [] (fun r' σ' => r' = .os true 1 0 0 0 (lN r) false ∧ σ' = [.cells 0 (fM encB r)]) := by
 refine ACalls.own0 (by simp only [push_cast]) ?_
 refine zT2 (rs := [.tmp 2]) tok Tryd.func29 rfl Tryd.ntmps29 rfl Tryd.call29 (by simp) ?_
 refine zp [(0, .ds true (fM encB a0) (lN a0) false)] ⟨rfl, trivial⟩ ?_
 unfold law00_Bytes at h
 refine rg tok [0] fun K hK => ?_
 simp only [go_sem, rL, reduceCtorEq]
 refine hK _ _ ?_
 have f1 := fun nl tt σ => zi1 E35.len a0 nl tt σ
 obtain ⟨_u2, hu2, h⟩ := bind_some h
 have gu2 := zQ hu2
 refine rg tok [2] fun K hK => ?_
 simp only [go_sem, rL, rE, reduceCtorEq, zJ, zF, zK, true_and, f1, gu2, zi2, nA, lZ, nZ]
 refine hK _ _ ?_
 refine zM (L := [(2, .os true 1 0 0 0 (lN a0) false)]) (τ := [.cells 0 (fM encB a0)]) .s ?_
 refine zj ?_
 obtain rfl := Option.some.inj h
 simp only [retQ, zT, zX, zm1, exists_eq_left', go_sem]
 refine ⟨0, 0, by simp, ?_, ?_⟩
 · first | rfl | (simp only [go_sem, rL, rD, rE, rA, rM, rS, reduceIte, reduceCtorEq, push_cast, if_true, dZ, nZ, mC, mN, mP, Bool.or_true, Bool.or_false, Bool.and_true, Bool.and_false, Bool.not_true, Bool.not_false, zA] <;> rfl)
 · first | rfl | (simp only [go_sem, push_cast, mN, zA] <;> rfl)
theorem law00_Bytes.ok (a0 : List UInt8) (r : List UInt8) (h : law00_Bytes a0 = some r) : ACalls Tryd.prog 29 [.ds true (fM encB a0) (lN a0) false] [] (fun r' _ => r' = .ds true (fM encB r) (lN r) false) :=
 (law00_Bytes.own a0 r h).ownData (zw E35.len r) (by simp only [push_cast])
theorem law00_Bytes.ev (a0 : List UInt8) (r : List UInt8) (h : law00_Bytes a0 = some r) (σ : Store) : ACalls Tryd.prog 29 [.ds true (fM encB a0) (lN a0) false] σ (fun r' σ' => r' = .ds true (fM encB r) (lN r) false ∧ σ' = σ) :=
 (law00_Bytes.ok a0 r h).c σ
def valid_kind.j2  : Int :=
 2
def valid_kind.j4  : Int :=
 1
def valid_kind (a0 : GType) : Int :=
 (if a0.fKind = 1 then valid_kind.j4 else (if a0.fKind = 2 then valid_kind.j4 else (if a0.fKind = 3 then valid_kind.j4 else (if a0.fKind = 6 then valid_kind.j4 else (if a0.fKind = 4 then valid_kind.j2 else (if a0.fKind = 5 then valid_kind.j2 else 3))))))
theorem valid_kind.ok (a0 : GType) (r : Int) (h : valid_kind a0 = r) : ACalls Tryd.prog 102 [.agg (encGType a0)] [] (fun r' _ => r' = .int .i64 r) := by
 refine zn (rs := [.tmp 2]) tok Tryd.func102 rfl Tryd.ntmps102 rfl Tryd.call102 (by simp) ?_
 refine zp [(0, .agg (encGType a0))] ⟨rfl, trivial⟩ ?_
 unfold valid_kind at h
 refine rg tok [1] fun K hK => ?_
 simp only [go_sem, rL, rE, rA, reduceCtorEq, encGType]
 refine hK _ _ ?_
 refine ze fun Z1 hZ1 => ?_
 refine rg tok [4] fun K hK => ?_
 simp only [go_sem, rL, rE, rA]
 refine hK _ _ ?_
 refine zk ?_
 refine zz1 (fun L τ => L = ([] : List (Nat × AV)) ∧ τ = ([] : Store) ∧ valid_kind.j2 = r) ?_ ?_
 · refine zk ?_
   refine zk ?_
   refine zz1 (fun L τ => L = ([] : List (Nat × AV)) ∧ τ = ([] : Store) ∧ valid_kind.j4 = r) ?_ ?_
   · refine zk ?_
     refine zk ?_
     refine zk ?_
     refine zk ?_
     refine ze fun Z6 hZ6 => ?_
     refine ze fun Z7 hZ7 => ?_
     refine rg tok [4, 5] fun K hK => ?_
     simp only [go_sem, rL, rE]
     refine hK _ _ ?_
     refine zz rfl (fun hc8 => ?_) (fun hc8 => ?_)
     · rw [if_pos hc8] at h
       have t9 := eq_true hc8
       refine zx ?_
       exact ⟨_, _, ⟨rfl, rfl, h⟩, (.t [] false)⟩
     · rw [if_neg hc8] at h
       have t10 := eq_false hc8
       refine zi ?_
       refine hZ7 _ _ ?_
       refine ze fun Z11 hZ11 => ?_
       refine rg tok [4, 7] fun K hK => ?_
       simp only [go_sem, rL, rE, t10]
       refine hK _ _ ?_
       refine zz rfl (fun hc12 => ?_) (fun hc12 => ?_)
       · rw [if_pos hc12] at h
         have t13 := eq_true hc12
         refine zx ?_
         exact ⟨_, _, ⟨rfl, rfl, h⟩, (.t [] false)⟩
       · rw [if_neg hc12] at h
         have t14 := eq_false hc12
         refine zi ?_
         refine hZ11 _ _ ?_
         refine ze fun Z15 hZ15 => ?_
         refine rg tok [4, 9] fun K hK => ?_
         simp only [go_sem, rL, rE, t14]
         refine hK _ _ ?_
         refine zz rfl (fun hc16 => ?_) (fun hc16 => ?_)
         · rw [if_pos hc16] at h
           have t17 := eq_true hc16
           refine zx ?_
           exact ⟨_, _, ⟨rfl, rfl, h⟩, (.t [] false)⟩
         · rw [if_neg hc16] at h
           have t18 := eq_false hc16
           refine zi ?_
           refine hZ15 _ _ ?_
           refine ze fun Z19 hZ19 => ?_
           refine rg tok [4, 11] fun K hK => ?_
           simp only [go_sem, rL, rE, t18]
           refine hK _ _ ?_
           refine zz rfl (fun hc20 => ?_) (fun hc20 => ?_)
           · rw [if_pos hc20] at h
             have t21 := eq_true hc20
             refine zx ?_
             exact ⟨_, _, ⟨rfl, rfl, h⟩, (.t [] false)⟩
           · rw [if_neg hc20] at h
             have t22 := eq_false hc20
             refine zi ?_
             refine hZ19 _ _ ?_
             refine ze fun Z23 hZ23 => ?_
             refine rg tok [4, 13] fun K hK => ?_
             simp only [go_sem, rL, rE, t22]
             refine hK _ _ ?_
             refine zz rfl (fun hc24 => ?_) (fun hc24 => ?_)
             · rw [if_pos hc24] at h
               have t25 := eq_true hc24
               refine zx ?_
               exact ⟨_, _, ⟨rfl, rfl, h⟩, (.t [] false)⟩
             · rw [if_neg hc24] at h
               have t26 := eq_false hc24
               refine zi ?_
               refine hZ23 _ _ ?_
               refine rg tok [15] fun K hK => ?_
               simp only [go_sem, rL, rE, t26]
               refine hK _ _ ?_
               refine zz rfl (fun hc27 => ?_) (fun hc27 => ?_)
               · rw [if_pos hc27] at h
                 have t28 := eq_true hc27
                 refine zx ?_
                 exact ⟨_, _, ⟨rfl, rfl, h⟩, (.t [] false)⟩
               · rw [if_neg hc27] at h
                 have t29 := eq_false hc27
                 refine zi ?_
                 refine hZ6 _ _ ?_
                 refine zx ?_
                 refine hZ1 _ _ ?_
                 refine rg tok [2] fun K hK => ?_
                 simp only [go_sem, rL, rE, t29]
                 refine hK _ _ ?_
                 refine zj ?_
                 obtain rfl := h
                 exact retA
   rintro _ _ ⟨rfl, rfl, h⟩
   unfold valid_kind.j4 at h
   refine ze fun Z5 hZ5 => ?_
   refine rg tok [2] fun K hK => ?_
   simp only [go_sem, rL]
   refine hK _ _ ?_
   refine zj ?_
   obtain rfl := h
   exact retA
 rintro _ _ ⟨rfl, rfl, h⟩
 unfold valid_kind.j2 at h
 refine ze fun Z3 hZ3 => ?_
 refine rg tok [2] fun K hK => ?_
 simp only [go_sem, rL]
 refine hK _ _ ?_
 refine zj ?_
 obtain rfl := h
 exact retA
theorem valid_kind.ev (a0 : GType) (r : Int) (h : valid_kind a0 = r) (σ : Store) : ACalls Tryd.prog 102 [.agg (encGType a0)] σ (fun r' σ' => r' = .int .i64 r ∧ σ' = σ) :=
 (valid_kind.ok a0 r h).c σ
def valid_fits (a0 : GType) (a1 : GTree) : Option Int :=
 bnd (valid_kind a0) fun r2 => (if a1.fKind = r2 then bnd (if a1.fKind = 1 then bnd (valid_Number a0 a1.fN) fun r6 => !r6 else false) fun c6 => (if c6 = true then some 11 else (if a0.fKind = 4 then (runes_Valid a1.fS).bind fun r11 => some (!r11) else some false).bind fun c11 => (if c11 = true then some 9 else some 0)) else some 8)
theorem valid_fits.ok (a0 : GType) (a1 : GTree) (r : Int) (h : valid_fits a0 a1 = some r) : ACalls Tryd.prog 73 [.agg (encGType a0), .agg (cellsGTree a1)] [] (fun r' _ => r' = .int .i64 r) := by
 refine zn (rs := [.tmp 4]) tok Tryd.func73 rfl Tryd.ntmps73 rfl Tryd.call73 (by simp) ?_
 refine zp [(0, .agg (encGType a0)), (1, .agg (cellsGTree a1))] ⟨rfl, rfl, trivial⟩ ?_
 unfold valid_fits at h
 refine rg tok [2, 3] fun K hK => ?_
 simp only [go_sem, rL, rE, rA, reduceCtorEq, cellsGTree, encGType]
 refine hK _ _ ?_
 refine ze fun Z1 hZ1 => ?_
 refine zk ?_
 obtain ⟨r2, hr2, h⟩ := zE h
 refine rd [2, 3, 5] fun K hK => ?_
 refine DW.start (T := tab) [.any, .own 1 [], .at [], .eff, .any, .any] [(1, [])] ?_
 refine DW.runN tok 3 ?_
 simp only [go_sem, rL, rD, rE, rA]
 refine DW.call rfl rfl rfl (valid_kind.ev a0 r2 hr2 _) ?_
 refine DW.runN tok 2 ?_
 simp only [go_sem, rL, rE]
 refine DW.fin tok (by decide +kernel) rfl ?_
 simp only [zd, upd, rE, reduceIte, zl, zm]
 refine hK _ _ ?_
 refine zz rfl (fun hc3 => ?_) (fun hc3 => ?_)
 · rw [if_neg hc3] at h
   have t4 := eq_false hc3
   refine rg tok [4] fun K hK => ?_
   simp only [go_sem, rL, rE, t4]
   refine hK _ _ ?_
   refine zj ?_
   obtain rfl := Option.some.inj h
   exact retA
 · rw [if_pos hc3] at h
   have t5 := eq_true hc3
   refine rc [2, 3, 11] fun K hK => ?_
   refine za tok 4 ?_
   simp only [go_sem, rL, rE, rA, t5]
   obtain ⟨c6, hc6, h⟩ := zE h
   refine zo 6 (fun L τ => L = ([(2, .op 0 0 0), (3, .op 1 0 0), (21, .bool c6)] : List (Nat × AV)) ∧ τ = ([.cells 0 [.int .i64 a0.fKind, .str a0.fName], .cells 0 [.int .i64 a1.fKind, .int .i64 a1.fN, .str a1.fS, .ds true (fM encGEntry a1.fEntries) (lN a1.fEntries) false, .ds true (fM encGRaw a1.fRest) (lN a1.fRest) false]] : Store)) ?_ ?_
   · refine zR 15 rfl (fun hg15 => ?_) (fun hg15 => ?_)
     · have t7 := eq_true hg15
       rw [if_pos hg15] at hc6
       obtain ⟨r8, hr8, hc6⟩ := zE hc6
       refine za tok 3 ?_
       simp only [go_sem, rL, rD, rE, rA]
       refine zh rfl rfl rfl (valid_Number.ev a0 a1.fN r8 hr8 _) ?_
       rintro _ _ ⟨rfl, rfl⟩
       refine za tok 2 ?_
       simp only [go_sem, rL, rE]
       subst hc6
       refine zb ⟨rfl, _, _, ⟨rfl, rfl⟩, .p t7⟩
     · have t9 := eq_false hg15
       rw [if_neg hg15] at hc6
       refine za tok 6 ?_
       simp only [go_sem, rL, rE]
       subst hc6
       refine zb ⟨rfl, _, _, ⟨rfl, rfl⟩, .p t9⟩
   rintro _ _ ⟨rfl, rfl⟩
   refine za tok 1 ?_
   simp only [go_sem, rL, rE]
   refine zb ?_
   simp only [zd, upd, rE, reduceIte, zl, zm]
   refine hK _ _ ?_
   refine zq (b := c6) rfl (fun hc10 => ?_) (fun hc10 => ?_)
   · rw [if_pos hc10] at h
     refine rg tok [4] fun K hK => ?_
     simp only [go_sem, rL, rE]
     refine hK _ _ ?_
     refine zj ?_
     obtain rfl := Option.some.inj h
     exact retA
   · rw [if_F hc10] at h
     refine rc [22] fun K hK => ?_
     refine za tok 4 ?_
     simp only [go_sem, rL, rE, rA]
     obtain ⟨c11, hc11, h⟩ := bind_some h
     refine zo 5 (fun L τ => L = ([(31, .bool c11)] : List (Nat × AV)) ∧ τ = ([.cells 0 [.int .i64 a0.fKind, .str a0.fName], .cells 0 [.int .i64 a1.fKind, .int .i64 a1.fN, .str a1.fS, .ds true (fM encGEntry a1.fEntries) (lN a1.fEntries) false, .ds true (fM encGRaw a1.fRest) (lN a1.fRest) false]] : Store)) ?_ ?_
     · refine zR 26 rfl (fun hg26 => ?_) (fun hg26 => ?_)
       · have t12 := eq_true hg26
         rw [if_pos hg26] at hc11
         obtain ⟨r13, hr13, hc11⟩ := bind_some hc11
         refine za tok 2 ?_
         simp only [go_sem, rL, rE, rA]
         refine zh rfl rfl rfl (runes_Valid.ev a1.fS r13 hr13 _) ?_
         rintro _ _ ⟨rfl, rfl⟩
         refine za tok 2 ?_
         simp only [go_sem, rL, rE]
         obtain rfl := Option.some.inj hc11
         refine zb ⟨rfl, _, _, ⟨rfl, rfl⟩, .p t12⟩
       · have t14 := eq_false hg26
         rw [if_neg hg26] at hc11
         refine za tok 5 ?_
         simp only [go_sem, rL, rE]
         obtain rfl := Option.some.inj hc11
         refine zb ⟨rfl, _, _, ⟨rfl, rfl⟩, .p t14⟩
     rintro _ _ ⟨rfl, rfl⟩
     refine za tok 1 ?_
     simp only [go_sem, rL]
     refine zb ?_
     simp only [zd, upd, rE, reduceIte, zl, zm]
     refine hK _ _ ?_
     refine zq (b := c11) rfl (fun hc15 => ?_) (fun hc15 => ?_)
     · rw [if_pos hc15] at h
       refine rg tok [4] fun K hK => ?_
       simp only [go_sem, rL, rE]
       refine hK _ _ ?_
       refine zj ?_
       obtain rfl := Option.some.inj h
       exact retA
     · rw [if_F hc15] at h
       refine zi ?_
       refine hZ1 _ _ ?_
       refine rg tok [4] fun K hK => ?_
       simp only [go_sem, rL, rE]
       refine hK _ _ ?_
       refine zj ?_
       obtain rfl := Option.some.inj h
       exact retA
theorem valid_fits.ev (a0 : GType) (a1 : GTree) (r : Int) (h : valid_fits a0 a1 = some r) (σ : Store) : ACalls Tryd.prog 73 [.agg (encGType a0), .agg (cellsGTree a1)] σ (fun r' σ' => r' = .int .i64 r ∧ σ' = σ) :=
 (valid_fits.ok a0 a1 r h).c σ
def valid_message.l9 (a1 : GMessage) : List GRaw → Int → Option Int
 | [], x7 => some 0
 | y9 :: q9, x7 => bnd (check_Field a1 y9.fTag) fun r15 => (if r15.2 = true then some 7 else ((valid_message.l9 a1 q9) (x7 + 1)))
def valid_message.j46 (x28 : Int) (rec30 : Int → Option Int) (x45 : Int) : Option Int :=
 (if x45 = 0 then (rec30 (x28 + 1)) else some x45)
def valid_message.l30 (self_valid_message : GSchema → GMessage → GTree → Option Int) (a0 : GSchema) (x2 : Int) (rec4 : Int → Option Int) (y4 : GEntry) (r21 : GField × Bool) : List GTree → Int → Option Int
 | [], x28 => (if r21.1.fLabel = 1 then (idxL y4.fTrees 0).bind fun y32 => bnd (valid_Zero y32) fun r35 => some r35 else some false).bind fun c32 => (if c32 = true then some 12 else (rec4 (x2 + 1)))
 | y30 :: q30, x28 => (valid_fits r21.1.fType y30).bind fun r44 => (if ((decide (r44 = 0)) && (decide (r21.1.fType.fKind = 7))) = true then bnd (check_Message a0 r21.1.fType.fName) fun r53 => (self_valid_message a0 r53.1 y30).bind fun r54 => (valid_message.j46 x28 (valid_message.l30 self_valid_message a0 x2 rec4 y4 r21 q30) r54) else (valid_message.j46 x28 (valid_message.l30 self_valid_message a0 x2 rec4 y4 r21 q30) r44))
def valid_message.l4 (self_valid_message : GSchema → GMessage → GTree → Option Int) (a0 : GSchema) (a1 : GMessage) (a2 : GTree) : List GEntry → Int → Option Int
 | [], x2 => (valid_message.l9 a1 a2.fRest 0)
 | y4 :: q4, x2 => bnd (check_Field a1 y4.fTag) fun r21 => (if (!r21.2) = true then some 7 else (if ((!(decide (r21.1.fLabel = 3))) && (decide (1 < (lN y4.fTrees : Int)))) = true then some 4 else (valid_message.l30 self_valid_message a0 x2 (valid_message.l4 self_valid_message a0 a1 a2 q4) y4 r21 y4.fTrees 0)))
def valid_message.body (self_valid_message : GSchema → GMessage → GTree → Option Int) (a0 : GSchema) (a1 : GMessage) (a2 : GTree) : Option Int :=
 (valid_message.l4 self_valid_message a0 a1 a2 a2.fEntries 0)
theorem valid_message.step (self_valid_message : GSchema → GMessage → GTree → Option Int) (ih_valid_message : ∀ (a0 : GSchema) (a1 : GMessage) (a2 : GTree) (r : Int), self_valid_message a0 a1 a2 = some r → ACalls Tryd.prog 49 [.agg (encGSchema a0), .agg (encGMessage a1), .agg (cellsGTree a2)] [] (fun r' _ => r' = .int .i64 r)) (a0 : GSchema) (a1 : GMessage) (a2 : GTree) (r : Int) (h : valid_message.body self_valid_message a0 a1 a2 = some r) : ACalls Tryd.prog 49 [.agg (encGSchema a0), .agg (encGMessage a1), .agg (cellsGTree a2)] [] (fun r' _ => r' = .int .i64 r) := by
 have ev_valid_message := fun a0 a1 a2 r h σ => (ih_valid_message a0 a1 a2 r h).c σ
 refine zn (rs := [.tmp 6]) tok Tryd.func49 rfl Tryd.ntmps49 rfl Tryd.call49 (by simp) ?_
 refine zp [(0, .agg (encGSchema a0)), (1, .agg (encGMessage a1)), (2, .agg (cellsGTree a2))] ⟨rfl, rfl, rfl, trivial⟩ ?_
 unfold valid_message.body at h
 refine rg tok [3, 4, 5] fun K hK => ?_
 simp only [go_sem, rL, rE, rA, reduceCtorEq, cellsGTree, encGMessage, encGSchema]
 refine hK _ _ ?_
 refine ze fun Z1 hZ1 => ?_
 refine rg tok [3, 4, 5, 21, 22, 23] fun K hK => ?_
 simp only [go_sem, rL, rE, rA]
 refine hK _ _ ?_
 refine zk ?_
 refine zO 21 fun hb4 => ?_
 replace hb4 : lN a2.fEntries ≤ 9223372036854775807 := hb4.1
 refine zy (fun m L τ => ∃ (p4 q4 : List GEntry) (x2 : Int), m = lN q4 ∧ L = ([(3, .op 0 0 0), (4, .op 1 0 0), (5, .op 2 0 0), (21, .ds true (fM encGEntry a2.fEntries) (lN a2.fEntries) false), (22, .int .i64 (lN a2.fEntries : Int)), (23, .int .i64 x2)] : List (Nat × AV)) ∧ τ = ([.cells 0 [.str a0.fName, .ds true (fM encGMessage a0.fMessages) (lN a0.fMessages) false, .ds true (fM encGEnumeration a0.fEnums) (lN a0.fEnums) false, .ds true (fM encGMethod a0.fMethods) (lN a0.fMethods) false], .cells 0 [.str a1.fName, .ds true (fM encGField a1.fFields) (lN a1.fFields) false, .ds true (fM encI a1.fReserved) (lN a1.fReserved) false], .cells 0 [.int .i64 a2.fKind, .int .i64 a2.fN, .str a2.fS, .ds true (fM encGEntry a2.fEntries) (lN a2.fEntries) false, .ds true (fM encGRaw a2.fRest) (lN a2.fRest) false]] : Store) ∧ a2.fEntries = p4 ++ q4 ∧ x2 = (lN p4 : Int) ∧ valid_message.l4 self_valid_message a0 a1 a2 q4 x2 = some r) _ ⟨[], a2.fEntries, 0, rfl, rfl, rfl, rfl, rfl, h⟩ .s ?_
 rintro m L τ ⟨p4, q4, x2, rfl, rfl, rfl, hE4, hi4, h⟩
 rcases q4 with _ | ⟨y4, q4⟩
 · have hz4 := zP hE4 hi4
   simp only [valid_message.l4] at h
   refine rg tok [3, 4, 5, 21, 22, 23, 24] fun K hK => ?_
   simp only [go_sem, rL, rE, hz4]
   refine hK _ _ ?_
   refine ze fun Z5 hZ5 => ?_
   refine zt rfl ?_
   refine zx ?_
   refine hZ1 _ _ ?_
   refine ze fun Z6 hZ6 => ?_
   refine rg tok [4, 94, 95, 96] fun K hK => ?_
   simp only [go_sem, rL, rE, rA]
   refine hK _ _ ?_
   refine zk ?_
   refine zO 94 fun hb9 => ?_
   replace hb9 : lN a2.fRest ≤ 9223372036854775807 := hb9.1
   refine zy (fun m L τ => ∃ (p9 q9 : List GRaw) (x7 : Int), m = lN q9 ∧ L = ([(4, .op 0 0 0), (94, .ds true (fM encGRaw a2.fRest) (lN a2.fRest) false), (95, .int .i64 (lN a2.fRest : Int)), (96, .int .i64 x7)] : List (Nat × AV)) ∧ τ = ([.cells 0 [.str a1.fName, .ds true (fM encGField a1.fFields) (lN a1.fFields) false, .ds true (fM encI a1.fReserved) (lN a1.fReserved) false]] : Store) ∧ a2.fRest = p9 ++ q9 ∧ x7 = (lN p9 : Int) ∧ valid_message.l9 a1 q9 x7 = some r) _ ⟨[], a2.fRest, 0, rfl, rfl, rfl, rfl, rfl, h⟩ (.t [1] false) ?_
   rintro m L τ ⟨p9, q9, x7, rfl, rfl, rfl, hE9, hi9, h⟩
   rcases q9 with _ | ⟨y9, q9⟩
   · have hz9 := zP hE9 hi9
     simp only [valid_message.l9] at h
     refine rg tok [4, 94, 95, 96, 97] fun K hK => ?_
     simp only [go_sem, rL, rE, hz9]
     refine hK _ _ ?_
     refine ze fun Z10 hZ10 => ?_
     refine zt rfl ?_
     refine zx ?_
     refine hZ6 _ _ ?_
     refine rg tok [6] fun K hK => ?_
     simp only [go_sem, rL, rE]
     refine hK _ _ ?_
     refine zj ?_
     obtain rfl := Option.some.inj h
     exact retA
   · obtain ⟨hz9, hw9, hx9, hE'9, hi'9⟩ := zI hE9 hi9 hb9
     simp only [valid_message.l9] at h
     refine rg tok [4, 94, 95, 96, 97] fun K hK => ?_
     simp only [go_sem, rL, rE, hz9]
     refine hK _ _ ?_
     refine ze fun Z11 hZ11 => ?_
     refine zv rfl ?_
     refine zi ?_
     refine hZ11 _ _ ?_
     refine ze fun Z12 hZ12 => ?_
     refine zk ?_
     have f13 := E22.idxS hx9
     have f14 := E22.loadS rfl rfl hx9
     refine rg tok [4, 17, 94, 95, 96] fun K hK => ?_
     simp only [go_sem, rL, rD, rE, rA, encGRaw, f13, f14]
     refine hK _ _ ?_
     refine rc [4, 19, 94, 95, 96] fun K hK => ?_
     obtain ⟨r15, hr15, h⟩ := zE h
     refine za tok 3 ?_
     simp only [go_sem, rL, rD, rE, rA]
     refine zh rfl rfl rfl (check_Field.ev a1 y9.fTag r15 hr15 _) ?_
     rintro _ _ ⟨rfl, rfl⟩
     refine za tok 6 ?_
     simp only [go_sem, rL, rD, rE, rA, encGField]
     refine zb ?_
     simp only [zd, upd, rE, reduceIte, zl, zm]
     refine hK _ _ ?_
     refine rg tok [4, 94, 95, 96, 107] fun K hK => ?_
     simp only [go_sem, rL, rE]
     refine hK _ _ ?_
     refine zq (b := r15.2) rfl (fun hc16 => ?_) (fun hc16 => ?_)
     · rw [if_pos hc16] at h
       refine rg tok [6] fun K hK => ?_
       simp only [go_sem, rL, rE]
       refine hK _ _ ?_
       refine zj ?_
       obtain rfl := Option.some.inj h
       exact retA
     · rw [if_F hc16] at h
       refine zi ?_
       refine hZ12 _ _ ?_
       refine rgE tok [4, 94, 95, 96] fun K hK => ?_
       simp only [go_sem, rL, rE, hw9]
       refine hK _ _ ?_
       exact ⟨_, _, _, nS q9.length, ⟨p9 ++ [y9], q9, x7 + 1, rfl, rfl, rfl, hE'9, hi'9, h⟩, (.t [0] false)⟩
 · obtain ⟨hz4, hw4, hx4, hE'4, hi'4⟩ := zI hE4 hi4 hb4
   simp only [valid_message.l4] at h
   refine rg tok [3, 4, 5, 21, 22, 23, 24] fun K hK => ?_
   simp only [go_sem, rL, rE, hz4]
   refine hK _ _ ?_
   refine ze fun Z17 hZ17 => ?_
   refine zv rfl ?_
   refine zi ?_
   refine hZ17 _ _ ?_
   refine ze fun Z18 hZ18 => ?_
   refine zk ?_
   have f19 := E40.idxS hx4
   have f20 := E40.loadS rfl rfl hx4
   refine rg tok [3, 4, 5, 8, 21, 22, 23] fun K hK => ?_
   simp only [go_sem, rL, rD, rE, rA, cellsGEntry, zL, f19, f20]
   refine hK _ _ ?_
   refine rc [3, 4, 5, 8, 9, 10, 21, 22, 23] fun K hK => ?_
   obtain ⟨r21, hr21, h⟩ := zE h
   refine za tok 3 ?_
   simp only [go_sem, rL, rD, rE, rA]
   refine zh rfl rfl rfl (check_Field.ev a1 y4.fTag r21 hr21 _) ?_
   rintro _ _ ⟨rfl, rfl⟩
   refine za tok 6 ?_
   simp only [go_sem, rL, rD, rE, rA, encGField]
   refine zb ?_
   simp only [zd, upd, rE, reduceIte, zl, zm]
   refine hK _ _ ?_
   refine ze fun Z22 hZ22 => ?_
   refine zk ?_
   refine rg tok [3, 4, 5, 8, 9, 21, 22, 23, 34] fun K hK => ?_
   simp only [go_sem, rL, rE]
   refine hK _ _ ?_
   refine zq (b := (!r21.2)) rfl (fun hc23 => ?_) (fun hc23 => ?_)
   · rw [if_pos hc23] at h
     refine rg tok [6] fun K hK => ?_
     simp only [go_sem, rL, rE]
     refine hK _ _ ?_
     refine zj ?_
     obtain rfl := Option.some.inj h
     exact retA
   · rw [if_F hc23] at h
     refine rc [3, 4, 5, 8, 9, 21, 22, 23, 37] fun K hK => ?_
     refine za tok 4 ?_
     simp only [go_sem, rL, rE, rA]
     refine zo 5 (fun L τ => L = ([(3, .op 0 0 0), (4, .op 1 0 0), (5, .op 2 0 0), (8, .op 3 0 0), (9, .op 4 0 0), (21, .ds true (fM encGEntry a2.fEntries) (lN a2.fEntries) false), (22, .int .i64 (lN a2.fEntries : Int)), (23, .int .i64 x2), (46, .bool ((!(decide (r21.1.fLabel = 3))) && (decide (1 < (lN y4.fTrees : Int)))))] : List (Nat × AV)) ∧ τ = ([.cells 0 [.str a0.fName, .ds true (fM encGMessage a0.fMessages) (lN a0.fMessages) false, .ds true (fM encGEnumeration a0.fEnums) (lN a0.fEnums) false, .ds true (fM encGMethod a0.fMethods) (lN a0.fMethods) false], .cells 0 [.str a1.fName, .ds true (fM encGField a1.fFields) (lN a1.fFields) false, .ds true (fM encI a1.fReserved) (lN a1.fReserved) false], .cells 0 [.int .i64 a2.fKind, .int .i64 a2.fN, .str a2.fS, .ds true (fM encGEntry a2.fEntries) (lN a2.fEntries) false, .ds true (fM encGRaw a2.fRest) (lN a2.fRest) false], .cells 0 [.int .i64 y4.fTag, .ds true (fM encGTree y4.fTrees) (lN y4.fTrees) false], .cells 0 [.str r21.1.fName, .int .i64 r21.1.fTag, .int .i64 r21.1.fLabel, .int .i64 r21.1.fType.fKind, .str r21.1.fType.fName]] : Store)) ?_ ?_
     · refine zR 41 rfl (fun hg41 => ?_) (fun hg41 => ?_)
       · have t24 := eq_false hg41
         refine za tok 5 ?_
         simp only [go_sem, rL, rE, rA]
         refine zb ⟨rfl, _, _, ⟨rfl, rfl⟩, .p t24⟩
       · have t25 := eq_true hg41
         refine za tok 5 ?_
         simp only [go_sem, rL, rE]
         refine zb ⟨rfl, _, _, ⟨rfl, rfl⟩, .p t25⟩
     rintro _ _ ⟨rfl, rfl⟩
     refine za tok 1 ?_
     simp only [go_sem, rL, rE]
     refine zb ?_
     simp only [zd, upd, rE, reduceIte, zl, zm]
     refine hK _ _ ?_
     refine zq (b := ((!(decide (r21.1.fLabel = 3))) && (decide (1 < (lN y4.fTrees : Int))))) rfl (fun hc26 => ?_) (fun hc26 => ?_)
     · rw [if_pos hc26] at h
       refine rg tok [6] fun K hK => ?_
       simp only [go_sem, rL, rE]
       refine hK _ _ ?_
       refine zj ?_
       obtain rfl := Option.some.inj h
       exact retA
     · rw [if_F hc26] at h
       refine zi ?_
       refine hZ22 _ _ ?_
       refine ze fun Z27 hZ27 => ?_
       refine rg tok [3, 4, 5, 8, 9, 21, 22, 23, 48, 49, 50] fun K hK => ?_
       simp only [go_sem, rL, rE, rA]
       refine hK _ _ ?_
       refine zk ?_
       refine zO 48 fun hb30 => ?_
       replace hb30 : lN y4.fTrees ≤ 9223372036854775807 := hb30.1
       refine zy (fun m L τ => ∃ (p30 q30 : List GTree) (x28 : Int), m = lN q30 ∧ L = ([(3, .op 0 0 0), (4, .op 1 0 0), (5, .op 2 0 0), (8, .op 3 0 0), (9, .op 4 0 0), (21, .ds true (fM encGEntry a2.fEntries) (lN a2.fEntries) false), (22, .int .i64 (lN a2.fEntries : Int)), (23, .int .i64 x2), (48, .ds true (fM encGTree y4.fTrees) (lN y4.fTrees) false), (49, .int .i64 (lN y4.fTrees : Int)), (50, .int .i64 x28)] : List (Nat × AV)) ∧ τ = ([.cells 0 [.str a0.fName, .ds true (fM encGMessage a0.fMessages) (lN a0.fMessages) false, .ds true (fM encGEnumeration a0.fEnums) (lN a0.fEnums) false, .ds true (fM encGMethod a0.fMethods) (lN a0.fMethods) false], .cells 0 [.str a1.fName, .ds true (fM encGField a1.fFields) (lN a1.fFields) false, .ds true (fM encI a1.fReserved) (lN a1.fReserved) false], .cells 0 [.int .i64 a2.fKind, .int .i64 a2.fN, .str a2.fS, .ds true (fM encGEntry a2.fEntries) (lN a2.fEntries) false, .ds true (fM encGRaw a2.fRest) (lN a2.fRest) false], .cells 0 [.int .i64 y4.fTag, .ds true (fM encGTree y4.fTrees) (lN y4.fTrees) false], .cells 0 [.str r21.1.fName, .int .i64 r21.1.fTag, .int .i64 r21.1.fLabel, .int .i64 r21.1.fType.fKind, .str r21.1.fType.fName]] : Store) ∧ y4.fTrees = p30 ++ q30 ∧ x28 = (lN p30 : Int) ∧ valid_message.l30 self_valid_message a0 x2 (valid_message.l4 self_valid_message a0 a1 a2 q4) y4 r21 q30 x28 = some r) _ ⟨[], y4.fTrees, 0, rfl, rfl, rfl, rfl, rfl, h⟩ .s ?_
       rintro m L τ ⟨p30, q30, x28, rfl, rfl, rfl, hE30, hi30, h⟩
       rcases q30 with _ | ⟨y30, q30⟩
       · have hz30 := zP hE30 hi30
         simp only [valid_message.l30] at h
         refine rg tok [3, 4, 5, 8, 9, 21, 22, 23, 48, 49, 50, 51] fun K hK => ?_
         simp only [go_sem, rL, rE, hz30]
         refine hK _ _ ?_
         refine ze fun Z31 hZ31 => ?_
         refine zt rfl ?_
         refine zx ?_
         refine hZ27 _ _ ?_
         refine rc [3, 4, 5, 21, 22, 23, 91] fun K hK => ?_
         refine za tok 4 ?_
         simp only [go_sem, rL, rE, rA]
         obtain ⟨c32, hc32, h⟩ := bind_some h
         refine zo 6 (fun L τ => L = ([(3, .op 0 0 0), (4, .op 1 0 0), (5, .op 2 0 0), (21, .ds true (fM encGEntry a2.fEntries) (lN a2.fEntries) false), (22, .int .i64 (lN a2.fEntries : Int)), (23, .int .i64 x2), (91, .bool c32)] : List (Nat × AV)) ∧ τ = ([.cells 0 [.str a0.fName, .ds true (fM encGMessage a0.fMessages) (lN a0.fMessages) false, .ds true (fM encGEnumeration a0.fEnums) (lN a0.fEnums) false, .ds true (fM encGMethod a0.fMethods) (lN a0.fMethods) false], .cells 0 [.str a1.fName, .ds true (fM encGField a1.fFields) (lN a1.fFields) false, .ds true (fM encI a1.fReserved) (lN a1.fReserved) false], .cells 0 [.int .i64 a2.fKind, .int .i64 a2.fN, .str a2.fS, .ds true (fM encGEntry a2.fEntries) (lN a2.fEntries) false, .ds true (fM encGRaw a2.fRest) (lN a2.fRest) false], .cells 0 [.int .i64 y4.fTag, .ds true (fM encGTree y4.fTrees) (lN y4.fTrees) false], .cells 0 [.str r21.1.fName, .int .i64 r21.1.fTag, .int .i64 r21.1.fLabel, .int .i64 r21.1.fType.fKind, .str r21.1.fType.fName]] : Store)) ?_ ?_
         · refine zR 85 rfl (fun hg85 => ?_) (fun hg85 => ?_)
           · have t33 := eq_true hg85
             rw [if_pos hg85] at hc32
             obtain ⟨y34, hy34, hc32⟩ := bind_some hc32
             have f35 := E59.idxS hy34
             have f36 := E59.loadS rfl rfl hy34
             obtain ⟨r37, hr37, hc32⟩ := zE hc32
             refine za tok 4 ?_
             simp only [go_sem, rL, rE, rA, cellsGTree, zW, f35, f36]
             refine zh rfl rfl rfl (valid_Zero.ev y34 r37 hr37 _) ?_
             rintro _ _ ⟨rfl, rfl⟩
             refine za tok 1 ?_
             simp only [go_sem, rL, rE]
             obtain rfl := Option.some.inj hc32
             refine zb ⟨rfl, _, _, ⟨rfl, rfl⟩, .p t33⟩
           · have t38 := eq_false hg85
             rw [if_neg hg85] at hc32
             refine za tok 6 ?_
             simp only [go_sem, rL, rE]
             obtain rfl := Option.some.inj hc32
             refine zb ⟨rfl, _, _, ⟨rfl, rfl⟩, .p t38⟩
         rintro _ _ ⟨rfl, rfl⟩
         refine zb ?_
         simp only [zd, rE, reduceIte, zl, zm]
         refine hK _ _ ?_
         refine zq (b := c32) rfl (fun hc39 => ?_) (fun hc39 => ?_)
         · rw [if_pos hc39] at h
           refine rg tok [6] fun K hK => ?_
           simp only [go_sem, rL, rE]
           refine hK _ _ ?_
           refine zj ?_
           obtain rfl := Option.some.inj h
           exact retA
         · rw [if_F hc39] at h
           refine zi ?_
           refine hZ18 _ _ ?_
           refine rgE tok [3, 4, 5, 21, 22, 23] fun K hK => ?_
           simp only [go_sem, rL, rE, hw4]
           refine hK _ _ ?_
           exact ⟨_, _, _, nS q4.length, ⟨p4 ++ [y4], q4, x2 + 1, rfl, rfl, rfl, hE'4, hi'4, h⟩, (.t [0, 1, 2] false)⟩
       · obtain ⟨hz30, hw30, hx30, hE'30, hi'30⟩ := zI hE30 hi30 hb30
         simp only [valid_message.l30] at h
         refine rg tok [3, 4, 5, 8, 9, 21, 22, 23, 48, 49, 50, 51] fun K hK => ?_
         simp only [go_sem, rL, rE, hz30]
         refine hK _ _ ?_
         refine ze fun Z40 hZ40 => ?_
         refine zv rfl ?_
         refine zi ?_
         refine hZ40 _ _ ?_
         refine ze fun Z41 hZ41 => ?_
         refine zk ?_
         have f42 := E59.idxS hx30
         have f43 := E59.loadS rfl rfl hx30
         refine rg tok [3, 4, 5, 8, 9, 12, 21, 22, 23, 48, 49, 50] fun K hK => ?_
         simp only [go_sem, rL, rD, rE, rA, cellsGTree, zW, f42, f43]
         refine hK _ _ ?_
         refine rc [3, 4, 5, 8, 9, 12, 13, 21, 22, 23, 48, 49, 50] fun K hK => ?_
         obtain ⟨r44, hr44, h⟩ := bind_some h
         refine za tok 3 ?_
         simp only [go_sem, rL, rD, rE, rA]
         refine zh rfl rfl rfl (valid_fits.ev r21.1.fType y30 r44 hr44 _) ?_
         rintro _ _ ⟨rfl, rfl⟩
         refine za tok 1 ?_
         simp only [go_sem, rL, rE]
         refine zb ?_
         simp only [zd, upd, rE, reduceIte, zl, zm]
         refine hK _ _ ?_
         refine zz1 (fun L τ => ∃ (x45 : Int), L = ([(3, .op 0 0 0), (4, .op 1 0 0), (5, .op 2 0 0), (8, .op 3 0 0), (9, .op 4 0 0), (13, .int .i64 x45), (21, .ds true (fM encGEntry a2.fEntries) (lN a2.fEntries) false), (22, .int .i64 (lN a2.fEntries : Int)), (23, .int .i64 x2), (48, .ds true (fM encGTree y4.fTrees) (lN y4.fTrees) false), (49, .int .i64 (lN y4.fTrees : Int)), (50, .int .i64 x28)] : List (Nat × AV)) ∧ τ = ([.cells 0 [.str a0.fName, .ds true (fM encGMessage a0.fMessages) (lN a0.fMessages) false, .ds true (fM encGEnumeration a0.fEnums) (lN a0.fEnums) false, .ds true (fM encGMethod a0.fMethods) (lN a0.fMethods) false], .cells 0 [.str a1.fName, .ds true (fM encGField a1.fFields) (lN a1.fFields) false, .ds true (fM encI a1.fReserved) (lN a1.fReserved) false], .cells 0 [.int .i64 a2.fKind, .int .i64 a2.fN, .str a2.fS, .ds true (fM encGEntry a2.fEntries) (lN a2.fEntries) false, .ds true (fM encGRaw a2.fRest) (lN a2.fRest) false], .cells 0 [.int .i64 y4.fTag, .ds true (fM encGTree y4.fTrees) (lN y4.fTrees) false], .cells 0 [.str r21.1.fName, .int .i64 r21.1.fTag, .int .i64 r21.1.fLabel, .int .i64 r21.1.fType.fKind, .str r21.1.fType.fName]] : Store) ∧ valid_message.j46 x28 (valid_message.l30 self_valid_message a0 x2 (valid_message.l4 self_valid_message a0 a1 a2 q4) y4 r21 q30) x45 = some r) ?_ ?_
         · refine rc [3, 4, 5, 8, 9, 12, 13, 21, 22, 23, 48, 49, 50, 65] fun K hK => ?_
           refine za tok 3 ?_
           simp only [go_sem, rL, rE]
           refine zo 5 (fun L τ => L = ([(3, .op 0 0 0), (4, .op 1 0 0), (5, .op 2 0 0), (8, .op 3 0 0), (9, .op 4 0 0), (12, .op 5 0 0), (13, .int .i64 r44), (21, .ds true (fM encGEntry a2.fEntries) (lN a2.fEntries) false), (22, .int .i64 (lN a2.fEntries : Int)), (23, .int .i64 x2), (48, .ds true (fM encGTree y4.fTrees) (lN y4.fTrees) false), (49, .int .i64 (lN y4.fTrees : Int)), (50, .int .i64 x28), (65, .bool ((decide (r44 = 0)) && (decide (r21.1.fType.fKind = 7))))] : List (Nat × AV)) ∧ τ = ([.cells 0 [.str a0.fName, .ds true (fM encGMessage a0.fMessages) (lN a0.fMessages) false, .ds true (fM encGEnumeration a0.fEnums) (lN a0.fEnums) false, .ds true (fM encGMethod a0.fMethods) (lN a0.fMethods) false], .cells 0 [.str a1.fName, .ds true (fM encGField a1.fFields) (lN a1.fFields) false, .ds true (fM encI a1.fReserved) (lN a1.fReserved) false], .cells 0 [.int .i64 a2.fKind, .int .i64 a2.fN, .str a2.fS, .ds true (fM encGEntry a2.fEntries) (lN a2.fEntries) false, .ds true (fM encGRaw a2.fRest) (lN a2.fRest) false], .cells 0 [.int .i64 y4.fTag, .ds true (fM encGTree y4.fTrees) (lN y4.fTrees) false], .cells 0 [.str r21.1.fName, .int .i64 r21.1.fTag, .int .i64 r21.1.fLabel, .int .i64 r21.1.fType.fKind, .str r21.1.fType.fName], .cells 0 [.int .i64 y30.fKind, .int .i64 y30.fN, .str y30.fS, .ds true (fM encGEntry y30.fEntries) (lN y30.fEntries) false, .ds true (fM encGRaw y30.fRest) (lN y30.fRest) false]] : Store)) ?_ ?_
           · refine zR 60 rfl (fun hg60 => ?_) (fun hg60 => ?_)
             · have t50 := eq_true hg60
               refine za tok 5 ?_
               simp only [go_sem, rL, rE, rA]
               refine zb ⟨rfl, _, _, ⟨rfl, rfl⟩, .p t50⟩
             · have t51 := eq_false hg60
               refine za tok 5 ?_
               simp only [go_sem, rL, rE]
               refine zb ⟨rfl, _, _, ⟨rfl, rfl⟩, .p t51⟩
           rintro _ _ ⟨rfl, rfl⟩
           refine zb ?_
           simp only [zd, rE, reduceIte, zl, zm]
           refine hK _ _ ?_
           refine zq (b := ((decide (r44 = 0)) && (decide (r21.1.fType.fKind = 7)))) rfl (fun hc52 => ?_) (fun hc52 => ?_)
           · rw [if_pos hc52] at h
             refine rc [3, 4, 5, 8, 9, 12, 14, 21, 22, 23, 48, 49, 50] fun K hK => ?_
             obtain ⟨r53, hr53, h⟩ := zE h
             refine za tok 4 ?_
             simp only [go_sem, rL, rD, rE, rA]
             refine zh rfl rfl rfl (check_Message.ev a0 r21.1.fType.fName r53 hr53 _) ?_
             rintro _ _ ⟨rfl, rfl⟩
             refine za tok 6 ?_
             simp only [go_sem, rL, rD, rE, rA, encGMessage]
             refine zb ?_
             simp only [zd, upd, rE, reduceIte, zl, zm]
             refine hK _ _ ?_
             refine rcE [3, 4, 5, 8, 9, 13, 21, 22, 23, 48, 49, 50] fun K hK => ?_
             obtain ⟨r54, hr54, h⟩ := bind_some h
             refine za tok 3 ?_
             simp only [go_sem, rL, rD, rE, rA]
             refine zh rfl rfl rfl (ev_valid_message a0 r53.1 y30 r54 hr54 _) ?_
             rintro _ _ ⟨rfl, rfl⟩
             refine za tok 1 ?_
             simp only [go_sem, rL, rE]
             refine zb ?_
             simp only [zd, upd, rE, reduceIte, zl, zm]
             refine hK _ _ ?_
             exact ⟨_, _, ⟨r54, rfl, rfl, h⟩, (.t [0, 1, 2, 3, 4] false)⟩
           · rw [if_F hc52] at h
             refine zi ?_
             exact ⟨_, _, ⟨r44, rfl, rfl, h⟩, (.t [0, 1, 2, 3, 4] false)⟩
         rintro _ _ ⟨x45, rfl, rfl, h⟩
         unfold valid_message.j46 at h
         refine rg tok [3, 4, 5, 8, 9, 13, 21, 22, 23, 48, 49, 50, 79] fun K hK => ?_
         simp only [go_sem, rL, rE]
         refine hK _ _ ?_
         refine zz rfl (fun hc47 => ?_) (fun hc47 => ?_)
         · rw [if_neg hc47] at h
           have t48 := eq_false hc47
           refine rg tok [6] fun K hK => ?_
           simp only [go_sem, rL, rE, t48]
           refine hK _ _ ?_
           refine zj ?_
           obtain rfl := Option.some.inj h
           exact retA
         · rw [if_pos hc47] at h
           have t49 := eq_true hc47
           refine zi ?_
           refine hZ41 _ _ ?_
           refine rgE tok [3, 4, 5, 8, 9, 21, 22, 23, 48, 49, 50] fun K hK => ?_
           simp only [go_sem, rL, rE, hw30, t49]
           refine hK _ _ ?_
           exact ⟨_, _, _, nS q30.length, ⟨p30 ++ [y30], q30, x28 + 1, rfl, rfl, rfl, hE'30, hi'30, h⟩, .s⟩
def valid_message : Nat → GSchema → GMessage → GTree → Option Int
 | 0, _, _, _ => none
 | k + 1, a0, a1, a2 => valid_message.body (valid_message k) a0 a1 a2
theorem valid_message.all (k : Nat) : (∀ (a0 : GSchema) (a1 : GMessage) (a2 : GTree) (r : Int), valid_message k a0 a1 a2 = some r → ACalls Tryd.prog 49 [.agg (encGSchema a0), .agg (encGMessage a1), .agg (cellsGTree a2)] [] (fun r' _ => r' = .int .i64 r)) := by
 induction k with
 | zero => exact (fun a0 a1 a2 r h => by simp only [valid_message] at h; cases h)
 | succ k ih => exact (fun a0 a1 a2 r h => valid_message.step _ ih a0 a1 a2 r (by simpa only [valid_message] using h))
theorem valid_message.ev (k : Nat) (a0 : GSchema) (a1 : GMessage) (a2 : GTree) (r : Int) (h : valid_message k a0 a1 a2 = some r) (σ : Store) : ACalls Tryd.prog 49 [.agg (encGSchema a0), .agg (encGMessage a1), .agg (cellsGTree a2)] σ (fun r' σ' => r' = .int .i64 r ∧ σ' = σ) :=
 ((valid_message.all k) a0 a1 a2 r h).c σ
def valid_Valid (a0 : GSchema) (a1 : List UInt8) (a2 : GTree) : Option Int :=
 (check_Check a0).bind fun r2 => (if r2 = 0 then bnd (check_Message a0 a1) fun r6 => (if (!r6.2) = true then some 14 else (if a2.fKind = 3 then (value_Check a2).bind fun r9 => some (!r9) else some true).bind fun c9 => (if c9 = true then some 1 else (valid_message rounds a0 r6.1 a2).bind fun r14 => some r14)) else some 1)
theorem valid_Valid.ok (a0 : GSchema) (a1 : List UInt8) (a2 : GTree) (r : Int) (h : valid_Valid a0 a1 a2 = some r) : ACalls Tryd.prog 30 [.agg (encGSchema a0), .str a1, .agg (cellsGTree a2)] [] (fun r' _ => r' = .int .i64 r) := by
 refine zn (rs := [.tmp 6]) tok Tryd.func30 rfl Tryd.ntmps30 rfl Tryd.call30 (by simp) ?_
 refine zp [(0, .agg (encGSchema a0)), (1, .str a1), (2, .agg (cellsGTree a2))] ⟨rfl, rfl, rfl, trivial⟩ ?_
 unfold valid_Valid at h
 refine rg tok [1, 3, 5] fun K hK => ?_
 simp only [go_sem, rL, rE, rA, reduceCtorEq, cellsGTree, encGSchema]
 refine hK _ _ ?_
 refine ze fun Z1 hZ1 => ?_
 refine rc [1, 3, 5, 11] fun K hK => ?_
 obtain ⟨r2, hr2, h⟩ := bind_some h
 refine za tok 1 ?_
 simp only [go_sem, rL, rD, rE, rA]
 refine zh rfl rfl rfl (check_Check.ev a0 r2 hr2 _) ?_
 rintro _ _ ⟨rfl, rfl⟩
 refine za tok 1 ?_
 simp only [go_sem, rL, rE]
 refine zb ?_
 simp only [zd, upd, rE, reduceIte, zl, zm]
 refine hK _ _ ?_
 refine zz rfl (fun hc3 => ?_) (fun hc3 => ?_)
 · rw [if_neg hc3] at h
   have t4 := eq_false hc3
   refine rg tok [6] fun K hK => ?_
   simp only [go_sem, rL, rE, t4]
   refine hK _ _ ?_
   refine zj ?_
   obtain rfl := Option.some.inj h
   exact retA
 · rw [if_pos hc3] at h
   have t5 := eq_true hc3
   refine zi ?_
   refine hZ1 _ _ ?_
   refine rc [3, 5, 7, 8] fun K hK => ?_
   obtain ⟨r6, hr6, h⟩ := zE h
   refine za tok 2 ?_
   simp only [go_sem, rL, rD, rE, rA, t5]
   refine zh rfl rfl rfl (check_Message.ev a0 a1 r6 hr6 _) ?_
   rintro _ _ ⟨rfl, rfl⟩
   refine za tok 6 ?_
   simp only [go_sem, rL, rD, rE, rA, encGMessage]
   refine zb ?_
   simp only [zd, upd, rE, reduceIte, zl, zm]
   refine hK _ _ ?_
   refine ze fun Z7 hZ7 => ?_
   refine zk ?_
   refine rg tok [3, 5, 7, 18] fun K hK => ?_
   simp only [go_sem, rL, rE]
   refine hK _ _ ?_
   refine zq (b := (!r6.2)) rfl (fun hc8 => ?_) (fun hc8 => ?_)
   · rw [if_pos hc8] at h
     refine rg tok [6] fun K hK => ?_
     simp only [go_sem, rL, rE]
     refine hK _ _ ?_
     refine zj ?_
     obtain rfl := Option.some.inj h
     exact retA
   · rw [if_F hc8] at h
     refine rc [3, 5, 7, 21] fun K hK => ?_
     refine za tok 4 ?_
     simp only [go_sem, rL, rE, rA]
     obtain ⟨c9, hc9, h⟩ := bind_some h
     refine zo 4 (fun L τ => L = ([(3, .op 0 0 0), (5, .op 1 0 0), (7, .op 2 0 0), (29, .bool c9)] : List (Nat × AV)) ∧ τ = ([.cells 0 [.str a0.fName, .ds true (fM encGMessage a0.fMessages) (lN a0.fMessages) false, .ds true (fM encGEnumeration a0.fEnums) (lN a0.fEnums) false, .ds true (fM encGMethod a0.fMethods) (lN a0.fMethods) false], .cells 0 [.int .i64 a2.fKind, .int .i64 a2.fN, .str a2.fS, .ds true (fM encGEntry a2.fEntries) (lN a2.fEntries) false, .ds true (fM encGRaw a2.fRest) (lN a2.fRest) false], .cells 0 [.str r6.1.fName, .ds true (fM encGField r6.1.fFields) (lN r6.1.fFields) false, .ds true (fM encI r6.1.fReserved) (lN r6.1.fReserved) false]] : Store)) ?_ ?_
     · refine zR 25 rfl (fun hg25 => ?_) (fun hg25 => ?_)
       · have t10 := eq_false hg25
         rw [if_neg hg25] at hc9
         refine za tok 4 ?_
         simp only [go_sem, rL, rE]
         obtain rfl := Option.some.inj hc9
         refine zb ⟨rfl, _, _, ⟨rfl, rfl⟩, .p t10⟩
       · have t11 := eq_true hg25
         rw [if_pos hg25] at hc9
         obtain ⟨r12, hr12, hc9⟩ := bind_some hc9
         refine za tok 1 ?_
         simp only [go_sem, rL, rD, rE, rA]
         refine zh rfl rfl rfl (value_Check.ev a2 r12 hr12 _) ?_
         rintro _ _ ⟨rfl, rfl⟩
         refine za tok 2 ?_
         simp only [go_sem, rL, rE]
         obtain rfl := Option.some.inj hc9
         refine zb ⟨rfl, _, _, ⟨rfl, rfl⟩, .p t11⟩
     rintro _ _ ⟨rfl, rfl⟩
     refine za tok 1 ?_
     simp only [go_sem, rL, rE]
     refine zb ?_
     simp only [zd, upd, rE, reduceIte, zl, zm]
     refine hK _ _ ?_
     refine zq (b := c9) rfl (fun hc13 => ?_) (fun hc13 => ?_)
     · rw [if_pos hc13] at h
       refine rg tok [6] fun K hK => ?_
       simp only [go_sem, rL, rE]
       refine hK _ _ ?_
       refine zj ?_
       obtain rfl := Option.some.inj h
       exact retA
     · rw [if_F hc13] at h
       refine zi ?_
       refine hZ7 _ _ ?_
       refine rc [6] fun K hK => ?_
       obtain ⟨r14, hr14, h⟩ := bind_some h
       refine za tok 3 ?_
       simp only [go_sem, rL, rD, rE, rA]
       refine zh rfl rfl rfl (valid_message.ev rounds a0 r6.1 a2 r14 hr14 _) ?_
       rintro _ _ ⟨rfl, rfl⟩
       refine za tok 1 ?_
       simp only [go_sem, rL, rE]
       refine zb ?_
       simp only [zd, upd, rE, reduceIte, zl, zm]
       refine hK _ _ ?_
       refine zj ?_
       obtain rfl := Option.some.inj h
       exact retA
theorem valid_Valid.ev (a0 : GSchema) (a1 : List UInt8) (a2 : GTree) (r : Int) (h : valid_Valid a0 a1 a2 = some r) (σ : Store) : ACalls Tryd.prog 30 [.agg (encGSchema a0), .str a1, .agg (cellsGTree a2)] σ (fun r' σ' => r' = .int .i64 r ∧ σ' = σ) :=
 (valid_Valid.ok a0 a1 a2 r h).c σ
def law12_DecodeAgain (a0 : GSchema) (a1 : List UInt8) (a2 : List UInt8) : Option Bool :=
 (law00_Few a0).bind fun r2 => (if (!r2) = true then (law12_awake).bind fun r4 => some r4 else (law00_Schema a0).bind fun r5 => (law00_Bytes a2).bind fun r6 => (decode_Decode r5 a1 r6).bind fun r7 => (if r7.2 = 0 then (law00_Schema a0).bind fun r16 => (valid_Valid r16 a1 r7.1).bind fun r17 => (if ((!(decide (r17 = 0))) && (!(decide (r17 = 11)))) = true then some false else (encode_Encode r7.1).bind fun r21 => (if r21.2 = 0 then (law00_Schema a0).bind fun r30 => (decode_Decode r30 a1 r21.1).bind fun r31 => (if r31.2 = 0 then (ref09_Same rounds r7.1 r31.1).bind fun r32 => some r32 else some false).bind fun c32 => (if (c32 && (decide ((lN r21.1 : Int) ≤ (lN a2 : Int)))) = true then (decode_Canonical a0 a1 r21.1).bind fun r36 => some r36 else some false).bind fun c36 => (if c36 = true then (law12_awake).bind fun r38 => some r38 else some false).bind fun c38 => some c38 else (if r21.2 = 4 then (law12_awake).bind fun r25 => some r25 else some false).bind fun c25 => some c25)) else (ref09_Same rounds r7.1 (⟨0, 0, [], ([] : List GEntry), ([] : List GRaw)⟩ : GTree)).bind fun r11 => (if r11 = true then (law12_awake).bind fun r12 => some r12 else some false).bind fun c12 => some c12))
theorem law12_DecodeAgain.ok (a0 : GSchema) (a1 : List UInt8) (a2 : List UInt8) (r : Bool) (h : law12_DecodeAgain a0 a1 a2 = some r) : ACalls Tryd.prog 9 [.agg (encGSchema a0), .str a1, .ds true (fM encB a2) (lN a2) false] [] (fun r' _ => r' = .bool r) := by
 refine zn (rs := [.tmp 6]) tok Tryd.func9 rfl Tryd.ntmps9 rfl Tryd.call9 (by simp) ?_
 refine zp [(0, .agg (encGSchema a0)), (1, .str a1), (2, .ds true (fM encB a2) (lN a2) false)] ⟨rfl, rfl, rfl, trivial⟩ ?_
 unfold law12_DecodeAgain at h
 refine rg tok [1, 2, 3] fun K hK => ?_
 simp only [go_sem, rL, rE, rA, reduceCtorEq, encGSchema]
 refine hK _ _ ?_
 refine ze fun Z1 hZ1 => ?_
 refine rc [1, 2, 3, 16] fun K hK => ?_
 obtain ⟨r2, hr2, h⟩ := bind_some h
 refine za tok 1 ?_
 simp only [go_sem, rL, rD, rE, rA]
 refine zh rfl rfl rfl (law00_Few.ev a0 r2 hr2 _) ?_
 rintro _ _ ⟨rfl, rfl⟩
 refine za tok 1 ?_
 simp only [go_sem, rL, rE]
 refine zb ?_
 simp only [zd, upd, rE, reduceIte, zl, zm]
 refine hK _ _ ?_
 refine zq (b := (!r2)) rfl (fun hc3 => ?_) (fun hc3 => ?_)
 · rw [if_pos hc3] at h
   refine rc [6] fun K hK => ?_
   obtain ⟨r4, hr4, h⟩ := bind_some h
   refine zh rfl rfl rfl (law12_awake.ev  r4 hr4 _) ?_
   rintro _ _ ⟨rfl, rfl⟩
   refine za tok 1 ?_
   simp only [go_sem, rL, rE]
   refine zb ?_
   simp only [zd, upd, rE, reduceIte, zl, zm]
   refine hK _ _ ?_
   refine zj ?_
   obtain rfl := Option.some.inj h
   exact retA
 · rw [if_F hc3] at h
   refine zi ?_
   refine hZ1 _ _ ?_
   refine rc [1, 2, 3, 7, 8] fun K hK => ?_
   obtain ⟨r5, hr5, h⟩ := bind_some h
   refine za tok 1 ?_
   simp only [go_sem, rL, rD, rE, rA]
   refine zh rfl rfl rfl (law00_Schema.ev a0 r5 hr5 _) ?_
   rintro _ _ ⟨rfl, rfl⟩
   obtain ⟨r6, hr6, h⟩ := bind_some h
   refine za tok 2 ?_
   simp only [go_sem, rL, rE, encGSchema]
   refine zh rfl rfl rfl (law00_Bytes.ev a2 r6 hr6 _) ?_
   rintro _ _ ⟨rfl, rfl⟩
   obtain ⟨r7, hr7, h⟩ := bind_some h
   refine zh rfl rfl rfl (decode_Decode.ev r5 a1 r6 r7 hr7 _) ?_
   rintro _ _ ⟨rfl, rfl⟩
   refine za tok 6 ?_
   simp only [go_sem, rL, rD, rE, rA, cellsGTree]
   refine zb ?_
   simp only [zd, upd, rE, reduceIte, zl, zm]
   refine hK _ _ ?_
   refine ze fun Z8 hZ8 => ?_
   refine rg tok [1, 2, 3, 7, 28] fun K hK => ?_
   simp only [go_sem, rL, rE]
   refine hK _ _ ?_
   refine zz rfl (fun hc9 => ?_) (fun hc9 => ?_)
   · rw [if_neg hc9] at h
     have t10 := eq_false hc9
     refine rc [6] fun K hK => ?_
     obtain ⟨r11, hr11, h⟩ := bind_some h
     refine za tok 2 ?_
     simp only [go_sem, rL, rD, rE, rA, t10]
     refine zh rfl rfl rfl (ACalls.loose (ref09_Same.ev rounds r7.1 (⟨0, 0, [], ([] : List GEntry), ([] : List GRaw)⟩ : GTree) r11 hr11 _)) ?_
     rintro _ _ ⟨rfl, rfl⟩
     refine za tok 1 ?_
     simp only [go_sem, rL, rE]
     obtain ⟨c12, hc12, h⟩ := bind_some h
     refine zo 2 (fun L τ => L = ([(34, .bool c12)] : List (Nat × AV)) ∧ τ = ([.cells 0 [.str a0.fName, .ds true (fM encGMessage a0.fMessages) (lN a0.fMessages) false, .ds true (fM encGEnumeration a0.fEnums) (lN a0.fEnums) false, .ds true (fM encGMethod a0.fMethods) (lN a0.fMethods) false], .cells 0 [.int .i64 r7.1.fKind, .int .i64 r7.1.fN, .str r7.1.fS, .ds true (fM encGEntry r7.1.fEntries) (lN r7.1.fEntries) false, .ds true (fM encGRaw r7.1.fRest) (lN r7.1.fRest) false]] : Store)) ?_ ?_
     · refine zH (b := r11) 32 rfl (fun hg32 => ?_) (fun hg32 => ?_)
       · rw [if_pos hg32] at hc12
         obtain ⟨r13, hr13, hc12⟩ := bind_some hc12
         refine zh rfl rfl rfl (law12_awake.ev  r13 hr13 _) ?_
         rintro _ _ ⟨rfl, rfl⟩
         refine za tok 1 ?_
         simp only [go_sem, rL, rE]
         obtain rfl := Option.some.inj hc12
         refine zb ⟨rfl, _, _, ⟨rfl, rfl⟩, .b hg32⟩
       · rw [if_F hg32] at hc12
         refine za tok 2 ?_
         simp only [go_sem, rL, rE]
         obtain rfl := Option.some.inj hc12
         refine zb ⟨rfl, _, _, ⟨rfl, rfl⟩, .b hg32⟩
     rintro _ _ ⟨rfl, rfl⟩
     refine za tok 1 ?_
     simp only [go_sem, rL]
     refine zb ?_
     simp only [zd, upd, rE, reduceIte, zl, zm]
     refine hK _ _ ?_
     refine zj ?_
     obtain rfl := Option.some.inj h
     exact retA
   · rw [if_pos hc9] at h
     have t14 := eq_true hc9
     refine zi ?_
     refine hZ8 _ _ ?_
     refine ze fun Z15 hZ15 => ?_
     obtain ⟨r16, hr16, h⟩ := bind_some h
     obtain ⟨r17, hr17, h⟩ := bind_some h
     refine rd [1, 2, 3, 7, 9] fun K hK => ?_
     refine DW.start (T := tab) [.at [], .eff, .any, .own 1 [], .eff, .any] [(1, [])] ?_
     refine DW.runN tok 1 ?_
     simp only [go_sem, rL, rD, rE, rA, t14]
     refine DW.call rfl rfl rfl (law00_Schema.ev a0 r16 hr16 _) ?_
     refine DW.runN tok 2 ?_
     simp only [go_sem, rL, rD, rE, rA, encGSchema]
     refine DW.call rfl rfl rfl (valid_Valid.ev r16 a1 r7.1 r17 hr17 _) ?_
     refine DW.runN tok 1 ?_
     simp only [go_sem, rL, rE]
     refine DW.fin tok (by decide +kernel) rfl ?_
     simp only [zd, upd, rE, reduceIte, zl, zm]
     refine hK _ _ ?_
     refine rc [1, 2, 3, 7, 45] fun K hK => ?_
     refine za tok 3 ?_
     simp only [go_sem, rL, rE]
     refine zo 3 (fun L τ => L = ([(1, .str a1), (2, .ds true (fM encB a2) (lN a2) false), (3, .op 0 0 0), (7, .op 1 0 0), (45, .bool ((!(decide (r17 = 0))) && (!(decide (r17 = 11)))))] : List (Nat × AV)) ∧ τ = ([.cells 0 [.str a0.fName, .ds true (fM encGMessage a0.fMessages) (lN a0.fMessages) false, .ds true (fM encGEnumeration a0.fEnums) (lN a0.fEnums) false, .ds true (fM encGMethod a0.fMethods) (lN a0.fMethods) false], .cells 0 [.int .i64 r7.1.fKind, .int .i64 r7.1.fN, .str r7.1.fS, .ds true (fM encGEntry r7.1.fEntries) (lN r7.1.fEntries) false, .ds true (fM encGRaw r7.1.fRest) (lN r7.1.fRest) false]] : Store)) ?_ ?_
     · refine zR 42 rfl (fun hg42 => ?_) (fun hg42 => ?_)
       · have t18 := eq_false hg42
         refine za tok 3 ?_
         simp only [go_sem, rL, rE]
         refine zb ⟨rfl, _, _, ⟨rfl, rfl⟩, .p t18⟩
       · have t19 := eq_true hg42
         refine za tok 3 ?_
         simp only [go_sem, rL, rE]
         refine zb ⟨rfl, _, _, ⟨rfl, rfl⟩, .p t19⟩
     rintro _ _ ⟨rfl, rfl⟩
     refine zb ?_
     simp only [zd, rE, reduceIte, zl, zm]
     refine hK _ _ ?_
     refine zq (b := ((!(decide (r17 = 0))) && (!(decide (r17 = 11))))) rfl (fun hc20 => ?_) (fun hc20 => ?_)
     · rw [if_pos hc20] at h
       refine rg tok [6] fun K hK => ?_
       simp only [go_sem, rL, rE]
       refine hK _ _ ?_
       refine zj ?_
       obtain rfl := Option.some.inj h
       exact retA
     · rw [if_F hc20] at h
       refine zi ?_
       refine hZ15 _ _ ?_
       refine rc [1, 2, 3, 7, 10, 11] fun K hK => ?_
       obtain ⟨r21, hr21, h⟩ := bind_some h
       refine za tok 1 ?_
       simp only [go_sem, rL, rD, rE, rA]
       refine zh rfl rfl rfl (encode_Encode.ev r7.1 r21 hr21 _) ?_
       rintro _ _ ⟨rfl, rfl⟩
       refine za tok 5 ?_
       simp only [go_sem, rL, rE, rA]
       refine zb ?_
       simp only [zd, upd, rE, reduceIte, zl, zm]
       refine hK _ _ ?_
       refine ze fun Z22 hZ22 => ?_
       refine rg tok [1, 2, 3, 7, 10, 11, 52] fun K hK => ?_
       simp only [go_sem, rL, rE]
       refine hK _ _ ?_
       refine zz rfl (fun hc23 => ?_) (fun hc23 => ?_)
       · rw [if_neg hc23] at h
         have t24 := eq_false hc23
         refine rc [6] fun K hK => ?_
         refine za tok 3 ?_
         simp only [go_sem, rL, rE, t24]
         obtain ⟨c25, hc25, h⟩ := bind_some h
         refine zo 2 (fun L τ => L = ([(57, .bool c25)] : List (Nat × AV)) ∧ τ = ([.cells 0 [.str a0.fName, .ds true (fM encGMessage a0.fMessages) (lN a0.fMessages) false, .ds true (fM encGEnumeration a0.fEnums) (lN a0.fEnums) false, .ds true (fM encGMethod a0.fMethods) (lN a0.fMethods) false], .cells 0 [.int .i64 r7.1.fKind, .int .i64 r7.1.fN, .str r7.1.fS, .ds true (fM encGEntry r7.1.fEntries) (lN r7.1.fEntries) false, .ds true (fM encGRaw r7.1.fRest) (lN r7.1.fRest) false]] : Store)) ?_ ?_
         · refine zR 55 rfl (fun hg55 => ?_) (fun hg55 => ?_)
           · have t26 := eq_true hg55
             rw [if_pos hg55] at hc25
             obtain ⟨r27, hr27, hc25⟩ := bind_some hc25
             refine zh rfl rfl rfl (law12_awake.ev  r27 hr27 _) ?_
             rintro _ _ ⟨rfl, rfl⟩
             refine za tok 1 ?_
             simp only [go_sem, rL, rE]
             obtain rfl := Option.some.inj hc25
             refine zb ⟨rfl, _, _, ⟨rfl, rfl⟩, .p t26⟩
           · have t28 := eq_false hg55
             rw [if_neg hg55] at hc25
             refine za tok 2 ?_
             simp only [go_sem, rL, rE]
             obtain rfl := Option.some.inj hc25
             refine zb ⟨rfl, _, _, ⟨rfl, rfl⟩, .p t28⟩
         rintro _ _ ⟨rfl, rfl⟩
         refine za tok 1 ?_
         simp only [go_sem, rL]
         refine zb ?_
         simp only [zd, upd, rE, reduceIte, zl, zm]
         refine hK _ _ ?_
         refine zj ?_
         obtain rfl := Option.some.inj h
         exact retA
       · rw [if_pos hc23] at h
         have t29 := eq_true hc23
         refine zi ?_
         refine hZ22 _ _ ?_
         refine rc [1, 2, 3, 7, 10, 12, 13] fun K hK => ?_
         obtain ⟨r30, hr30, h⟩ := bind_some h
         refine za tok 1 ?_
         simp only [go_sem, rL, rD, rE, rA, t29]
         refine zh rfl rfl rfl (law00_Schema.ev a0 r30 hr30 _) ?_
         rintro _ _ ⟨rfl, rfl⟩
         obtain ⟨r31, hr31, h⟩ := bind_some h
         refine za tok 2 ?_
         simp only [go_sem, rL, rE, encGSchema]
         refine zh rfl rfl rfl (decode_Decode.ev r30 a1 r21.1 r31 hr31 _) ?_
         rintro _ _ ⟨rfl, rfl⟩
         refine za tok 6 ?_
         simp only [go_sem, rL, rD, rE, rA, cellsGTree]
         refine zb ?_
         simp only [zd, upd, rE, reduceIte, zl, zm]
         refine hK _ _ ?_
         refine rc [6] fun K hK => ?_
         refine za tok 3 ?_
         simp only [go_sem, rL, rE]
         obtain ⟨c32, hc32, h⟩ := bind_some h
         refine zo 4 (fun L τ => L = ([(1, .str a1), (2, .ds true (fM encB a2) (lN a2) false), (3, .op 0 0 0), (10, .ds true (fM encB r21.1) (lN r21.1) false), (72, .bool c32)] : List (Nat × AV)) ∧ τ = ([.cells 0 [.str a0.fName, .ds true (fM encGMessage a0.fMessages) (lN a0.fMessages) false, .ds true (fM encGEnumeration a0.fEnums) (lN a0.fEnums) false, .ds true (fM encGMethod a0.fMethods) (lN a0.fMethods) false], .cells 0 [.int .i64 r7.1.fKind, .int .i64 r7.1.fN, .str r7.1.fS, .ds true (fM encGEntry r7.1.fEntries) (lN r7.1.fEntries) false, .ds true (fM encGRaw r7.1.fRest) (lN r7.1.fRest) false], .cells 0 [.int .i64 r31.1.fKind, .int .i64 r31.1.fN, .str r31.1.fS, .ds true (fM encGEntry r31.1.fEntries) (lN r31.1.fEntries) false, .ds true (fM encGRaw r31.1.fRest) (lN r31.1.fRest) false]] : Store)) ?_ ?_
         · refine zR 68 rfl (fun hg68 => ?_) (fun hg68 => ?_)
           · have t33 := eq_true hg68
             rw [if_pos hg68] at hc32
             obtain ⟨r34, hr34, hc32⟩ := bind_some hc32
             refine za tok 2 ?_
             simp only [go_sem, rL, rD, rE, rA]
             refine zh rfl rfl rfl (ref09_Same.ev rounds r7.1 r31.1 r34 hr34 _) ?_
             rintro _ _ ⟨rfl, rfl⟩
             refine za tok 1 ?_
             simp only [go_sem, rL, rE]
             obtain rfl := Option.some.inj hc32
             refine zb ⟨rfl, _, _, ⟨rfl, rfl⟩, .p t33⟩
           · have t35 := eq_false hg68
             rw [if_neg hg68] at hc32
             refine za tok 4 ?_
             simp only [go_sem, rL, rE]
             obtain rfl := Option.some.inj hc32
             refine zb ⟨rfl, _, _, ⟨rfl, rfl⟩, .p t35⟩
         rintro _ _ ⟨rfl, rfl⟩
         refine za tok 1 ?_
         simp only [go_sem, rL, rE]
         refine zo 6 (fun L τ => L = ([(1, .str a1), (3, .op 0 0 0), (10, .ds true (fM encB r21.1) (lN r21.1) false), (79, .bool (c32 && (decide ((lN r21.1 : Int) ≤ (lN a2 : Int)))))] : List (Nat × AV)) ∧ τ = ([.cells 0 [.str a0.fName, .ds true (fM encGMessage a0.fMessages) (lN a0.fMessages) false, .ds true (fM encGEnumeration a0.fEnums) (lN a0.fEnums) false, .ds true (fM encGMethod a0.fMethods) (lN a0.fMethods) false], .cells 0 [.int .i64 r7.1.fKind, .int .i64 r7.1.fN, .str r7.1.fS, .ds true (fM encGEntry r7.1.fEntries) (lN r7.1.fEntries) false, .ds true (fM encGRaw r7.1.fRest) (lN r7.1.fRest) false], .cells 0 [.int .i64 r31.1.fKind, .int .i64 r31.1.fN, .str r31.1.fS, .ds true (fM encGEntry r31.1.fEntries) (lN r31.1.fEntries) false, .ds true (fM encGRaw r31.1.fRest) (lN r31.1.fRest) false]] : Store)) ?_ ?_
         · refine zH (b := c32) 73 rfl (fun hg73 => ?_) (fun hg73 => ?_)
           · refine za tok 6 ?_
             simp only [go_sem, rL, rE]
             refine zb ⟨rfl, _, _, ⟨rfl, rfl⟩, .b hg73⟩
           · refine za tok 6 ?_
             simp only [go_sem, rL, rE]
             refine zb ⟨rfl, _, _, ⟨rfl, rfl⟩, .b hg73⟩
         rintro _ _ ⟨rfl, rfl⟩
         refine za tok 1 ?_
         simp only [go_sem, rL, rE]
         obtain ⟨c36, hc36, h⟩ := bind_some h
         refine zo 5 (fun L τ => L = ([(85, .bool c36)] : List (Nat × AV)) ∧ τ = ([.cells 0 [.str a0.fName, .ds true (fM encGMessage a0.fMessages) (lN a0.fMessages) false, .ds true (fM encGEnumeration a0.fEnums) (lN a0.fEnums) false, .ds true (fM encGMethod a0.fMethods) (lN a0.fMethods) false], .cells 0 [.int .i64 r7.1.fKind, .int .i64 r7.1.fN, .str r7.1.fS, .ds true (fM encGEntry r7.1.fEntries) (lN r7.1.fEntries) false, .ds true (fM encGRaw r7.1.fRest) (lN r7.1.fRest) false], .cells 0 [.int .i64 r31.1.fKind, .int .i64 r31.1.fN, .str r31.1.fS, .ds true (fM encGEntry r31.1.fEntries) (lN r31.1.fEntries) false, .ds true (fM encGRaw r31.1.fRest) (lN r31.1.fRest) false]] : Store)) ?_ ?_
         · refine zH (b := (c32 && (decide ((lN r21.1 : Int) ≤ (lN a2 : Int))))) 80 rfl (fun hg80 => ?_) (fun hg80 => ?_)
           · rw [if_pos hg80] at hc36
             obtain ⟨r37, hr37, hc36⟩ := bind_some hc36
             refine za tok 3 ?_
             simp only [go_sem, rL, rD, rE, rA]
             refine zh rfl rfl rfl (decode_Canonical.ev a0 a1 r21.1 r37 hr37 _) ?_
             rintro _ _ ⟨rfl, rfl⟩
             refine za tok 1 ?_
             simp only [go_sem, rL, rE]
             obtain rfl := Option.some.inj hc36
             refine zb ⟨rfl, _, _, ⟨rfl, rfl⟩, .b hg80⟩
           · rw [if_F hg80] at hc36
             refine za tok 5 ?_
             simp only [go_sem, rL, rE]
             obtain rfl := Option.some.inj hc36
             refine zb ⟨rfl, _, _, ⟨rfl, rfl⟩, .b hg80⟩
         rintro _ _ ⟨rfl, rfl⟩
         refine za tok 1 ?_
         simp only [go_sem, rL]
         obtain ⟨c38, hc38, h⟩ := bind_some h
         refine zo 2 (fun L τ => L = ([(88, .bool c38)] : List (Nat × AV)) ∧ τ = ([.cells 0 [.str a0.fName, .ds true (fM encGMessage a0.fMessages) (lN a0.fMessages) false, .ds true (fM encGEnumeration a0.fEnums) (lN a0.fEnums) false, .ds true (fM encGMethod a0.fMethods) (lN a0.fMethods) false], .cells 0 [.int .i64 r7.1.fKind, .int .i64 r7.1.fN, .str r7.1.fS, .ds true (fM encGEntry r7.1.fEntries) (lN r7.1.fEntries) false, .ds true (fM encGRaw r7.1.fRest) (lN r7.1.fRest) false], .cells 0 [.int .i64 r31.1.fKind, .int .i64 r31.1.fN, .str r31.1.fS, .ds true (fM encGEntry r31.1.fEntries) (lN r31.1.fEntries) false, .ds true (fM encGRaw r31.1.fRest) (lN r31.1.fRest) false]] : Store)) ?_ ?_
         · refine zH (b := c36) 86 rfl (fun hg86 => ?_) (fun hg86 => ?_)
           · rw [if_pos hg86] at hc38
             obtain ⟨r39, hr39, hc38⟩ := bind_some hc38
             refine zh rfl rfl rfl (law12_awake.ev  r39 hr39 _) ?_
             rintro _ _ ⟨rfl, rfl⟩
             refine za tok 1 ?_
             simp only [go_sem, rL, rE]
             obtain rfl := Option.some.inj hc38
             refine zb ⟨rfl, _, _, ⟨rfl, rfl⟩, .b hg86⟩
           · rw [if_F hg86] at hc38
             refine za tok 2 ?_
             simp only [go_sem, rL, rE]
             obtain rfl := Option.some.inj hc38
             refine zb ⟨rfl, _, _, ⟨rfl, rfl⟩, .b hg86⟩
         rintro _ _ ⟨rfl, rfl⟩
         refine za tok 1 ?_
         simp only [go_sem, rL]
         refine zb ?_
         simp only [zd, upd, rE, reduceIte, zl, zm]
         refine hK _ _ ?_
         refine zj ?_
         obtain rfl := Option.some.inj h
         exact retA
end Go.Proofs.YtaddlmlpeghonaaDoor
end
section
set_option maxRecDepth 4000
namespace Go.Proofs.YtaddlmlpeghonaaDoor
open AM
def vb (n : Nat) : List UInt8 := if h : n < 128 then [UInt8.ofNat n] else UInt8.ofNat (n % 128 + 128) :: vb (n / 128)
termination_by n
decreasing_by omega
theorem vb_lt {n : Nat} (h : n < 128) : vb n = [UInt8.ofNat n] := by rw [vb, dif_pos h]
theorem vb_ge {n : Nat} (h : ¬ n < 128) : vb n = UInt8.ofNat (n % 128 + 128) :: vb (n / 128) := by rw [vb, dif_neg h]
theorem vb_pos (n : Nat) : 0 < (vb n).length := by
 by_cases h : n < 128
 · rw [vb_lt h]; exact Nat.one_pos
 · rw [vb_ge h, lC]; omega
theorem vb_len : ∀ (k n : Nat), n < 2 ^ (7 * (k + 1)) → (vb n).length ≤ k + 1
 | 0, n, h => by rw [vb_lt (by simpa using h)]; exact nR _
 | k + 1, n, h => by
  by_cases h1 : n < 128
  · rw [vb_lt h1, lC, lZ]; omega
  · rw [vb_ge h1, lC]
    have := vb_len k (n / 128) (by
     have e : 2 ^ (7 * (k + 1 + 1)) = 128 * 2 ^ (7 * (k + 1)) := by rw [show 7 * (k + 1 + 1) = 7 + 7 * (k + 1) by omega, Nat.pow_add]
     rw [e] at h
     exact Nat.div_lt_of_lt_mul h)
    omega
theorem vb_len10 {n : Nat} (h : n < 2 ^ 64) : (vb n).length ≤ 10 := vb_len 9 n (Nat.lt_of_lt_of_le h (by decide))
theorem zF4 {p : Prop} [Decidable p] (h : p) : grd p = some () := if_pos h
theorem zq1 {n b : Nat} (h : n * b ≤ 140737488355328) : room n b = some () := if_pos h
theorem u64w {n : Nat} (h : n < 2 ^ 64) : IntKind.u64.wrap (n : Int) = (n : Int) := by rw [IntKind.wrap_u64]; omega
theorem u64i {x : Int} (h : 0 ≤ x) (h' : x < 18446744073709551616) : IntKind.u64.wrap x = x := by rw [IntKind.wrap_u64]; omega
theorem u8w (n : Nat) : IntKind.u8.wrap (n : Int) = ((n % 256 : Nat) : Int) := by
 simp only [IntKind.wrap, IntKind.bits, IntKind.signed, Bool.false_and]
 simp
theorem zy4 (n : Nat) (h : n < 256) : (UInt8.ofNat n).toNat = n := by
 rw [UInt8.toNat_ofNat']; omega
theorem or128 : ∀ m : Fin 256, (BitVec.ofInt 8 ((m.val : Nat) : Int) ||| BitVec.ofInt 8 128).toNat = m.val % 128 + 128 := by decide
theorem and127 : ∀ m : Fin 256, (BitVec.ofInt 8 ((m.val : Nat) : Int) &&& ~~~(BitVec.ofInt 8 128)).toNat = m.val % 128 := by decide
theorem moreByte (n : Nat) : UInt8.ofNat (Int.toNat (IntKind.u8.wrap ((BitVec.toNat (BitVec.ofInt 8 (IntKind.u8.wrap (n : Int)) ||| BitVec.ofInt 8 128) : Nat) : Int))) = UInt8.ofNat (n % 128 + 128) := by
 have h := or128 ⟨n % 256, Nat.mod_lt _ (by decide)⟩
 simp only at h
 rw [u8w n, h, u8w (n % 256 % 128 + 128), Int.toNat_natCast]
 congr 1
 have := Nat.mod_mod_of_dvd n (show 128 ∣ 256 by decide)
 omega
theorem lastByte (n : Nat) (h : n < 128) : UInt8.ofNat (Int.toNat (IntKind.u8.wrap (n : Int))) = UInt8.ofNat n := by
 rw [u8w, Int.toNat_natCast]; congr 1; omega
theorem shr7 (n : Nat) : Int.fdiv (n : Int) (2 ^ (min (Int.toNat 7) 64)) = ((n / 128 : Nat) : Int) := by
 rw [show ((2 : Int) ^ (min (Int.toNat 7) 64)) = 128 from by decide, Int.fdiv_eq_ediv_of_nonneg _ (by decide)]
 omega
theorem vint_Put_l : ∀ (k n : Nat) (l : List UInt8), n < 2 ^ (7 * k) → l.length + k ≤ 140737488355328 → vint_Put.l9 k l (n : Int) = some (l ++ vb n) ∨ k = 0
 | 0, _, _, _, _ => Or.inr rfl
 | k + 1, n, l, h, hl => by
  left
  by_cases h1 : n < 128
  · rw [vint_Put.l9, if_neg (by omega), zq1 (by omega), bS, lastByte n h1, vb_lt h1]
  · rw [vint_Put.l9, if_pos (by omega), zq1 (by omega), bS, moreByte, shr7, vb_ge h1]
    have hk : n / 128 < 2 ^ (7 * k) := by
     have e : 2 ^ (7 * (k + 1)) = 128 * 2 ^ (7 * k) := by rw [show 7 * (k + 1) = 7 + 7 * k by omega, Nat.pow_add]
     rw [e] at h; exact Nat.div_lt_of_lt_mul h
    rcases vint_Put_l k (n / 128) (l ++ [UInt8.ofNat (n % 128 + 128)]) hk (by rw [lP, List.length_singleton]; omega) with e | e
    · rw [e, aA]; rfl
    · exfalso; subst e; simp at hk; omega
theorem vint_Put_m : ∀ (k j n : Nat) (l r : List UInt8), vint_Put.l9 k l (n : Int) = some r → vint_Put.l9 (k + j) l (n : Int) = some r
 | 0, _, _, _, _, h => by cases h
 | k + 1, j, n, l, r, h => by
  rw [Nat.succ_add_eq_add_succ, Nat.add_succ]
  by_cases h1 : (128 : Int) ≤ (n : Int)
  · rw [vint_Put.l9, if_pos h1] at h ⊢
    cases hr : room (lN l + 1) 1 with
    | none => rw [hr] at h; cases h
    | some u =>
     rw [hr, bS, shr7] at h
     rw [bS, shr7]; exact vint_Put_m k j _ _ _ h
  · rw [vint_Put.l9, if_neg h1] at h ⊢; exact h
theorem zI3 (a : List UInt8) {n : Nat} (h : n < 2 ^ 64) (ha : a.length ≤ 140737488355000) : vint_Put a (n : Int) = some (a ++ vb n) := by
 by_cases h1 : n < 128
 · rw [vint_Put, if_neg (by omega), zq1 (by omega), bS, lastByte n h1, vb_lt h1]
 · rw [vint_Put, if_pos (by omega), zq1 (by omega), bS, moreByte, shr7, vb_ge h1]
   rcases vint_Put_l 10 (n / 128) (a ++ [UInt8.ofNat (n % 128 + 128)]) (by omega) (by rw [lP, List.length_singleton]; omega) with e | e
   · have := vint_Put_m 10 999999999999999999990 _ _ _ e
     rw [show 10 + 999999999999999999990 = rounds from rfl] at this
     rw [this, aA]; rfl
   · cases e
theorem orAdd {i acc d : Nat} (h : acc < 2 ^ i) : acc ||| d * 2 ^ i = acc + d * 2 ^ i := by
 rw [Nat.or_comm, Nat.mul_comm, ← Nat.two_pow_add_eq_or_of_lt h]; omega
theorem bv64 {n : Nat} (h : n < 2 ^ 64) : (BitVec.ofInt 64 (n : Int)).toNat = n := by
 rw [BitVec.ofInt_natCast, BitVec.toNat_ofNat]; exact Nat.mod_eq_of_lt h
theorem stepv {acc i : Nat} {y : UInt8} (hi : i ≤ 9) (ha : acc < 2 ^ (7 * i)) (h9 : i = 9 → y.toNat ≤ 1) : IntKind.u64.wrap ((BitVec.toNat (BitVec.ofInt 64 (acc : Int) ||| BitVec.ofInt 64 (IntKind.u64.wrap ((IntKind.u64.wrap (IntKind.u8.wrap ((BitVec.toNat (BitVec.ofInt 8 (y.toNat : Int) &&& ~~~(BitVec.ofInt 8 128)) : Nat) : Int))) * 2 ^ (min (Int.toNat (IntKind.i64.wrap (7 * (i : Int)))) 64)))) : Nat) : Int) = ((acc + (y.toNat % 128) * 2 ^ (7 * i) : Nat) : Int) ∧ acc + (y.toNat % 128) * 2 ^ (7 * i) < 2 ^ 64 ∧ (i < 9 → acc + (y.toNat % 128) * 2 ^ (7 * i) < 2 ^ (7 * (i + 1))) := by
 have hy : y.toNat < 256 := y.toNat_lt
 have h := and127 ⟨y.toNat, hy⟩
 simp only at h
 have e : IntKind.i64.wrap (7 * (i : Int)) = ((7 * i : Nat) : Int) := by rw [za1 (by omega) (by omega)]; omega
 have hm : min (7 * i) 64 = 7 * i := by omega
 have hd : y.toNat % 128 < 128 := Nat.mod_lt _ (by decide)
 have hp : 2 ^ (7 * (i + 1)) = 128 * 2 ^ (7 * i) := by rw [show 7 * (i + 1) = 7 + 7 * i by omega, Nat.pow_add]
 have hs : i < 9 → acc + (y.toNat % 128) * 2 ^ (7 * i) < 2 ^ (7 * (i + 1)) := by
  intro _
  rw [hp]
  have : (y.toNat % 128) * 2 ^ (7 * i) ≤ 127 * 2 ^ (7 * i) := Nat.mul_le_mul_right _ (by omega)
  omega
 have hb : acc + (y.toNat % 128) * 2 ^ (7 * i) < 2 ^ 64 := by
  by_cases h8 : i < 9
  · have := hs h8
    have h2 : 2 ^ (7 * (i + 1)) ≤ 2 ^ 63 := Nat.pow_le_pow_right (by decide) (by omega)
    omega
  · have hi9 : i = 9 := by omega
    have h1 := h9 hi9
    subst hi9
    have : y.toNat % 128 ≤ 1 := by omega
    have h2 : (y.toNat % 128) * 2 ^ (7 * 9) ≤ 1 * 2 ^ (7 * 9) := Nat.mul_le_mul_right _ this
    omega
 refine ⟨?_, hb, hs⟩
 rw [h, u8w, Nat.mod_eq_of_lt (show y.toNat % 128 < 256 by omega), e, Int.toNat_natCast, hm]
 have hc : ((((y.toNat % 128 : Nat) : Int)) * 2 ^ (7 * i)) = (((y.toNat % 128) * 2 ^ (7 * i) : Nat) : Int) := by
  rw [Int.natCast_mul, Int.natCast_pow]; rfl
 have hu : IntKind.u64.wrap ((y.toNat % 128 : Nat) : Int) = ((y.toNat % 128 : Nat) : Int) := u64w (by omega)
 rw [hu, hc, u64w (n := y.toNat % 128 * 2 ^ (7 * i)) (by omega), BitVec.toNat_or, bv64 (by omega), bv64 (by omega), orAdd ha, u64w hb]
theorem zY4 (a : Nat) (hA : a ≤ 4611686018427387904) : ∀ (q post : List UInt8) (v i acc : Nat), q = vb v ++ post → i ≤ 9 → acc < 2 ^ (7 * i) → v * 2 ^ (7 * i) < 2 ^ 64 → (0 < i → v ≠ 0) →
 vint_Get.l12 (a : Int) q (i : Int) (acc : Int) = some (((acc + v * 2 ^ (7 * i) : Nat) : Int), ((a + i + (vb v).length : Nat) : Int), 0)
 | [], post, v, i, acc, h, _, _, _, _ => by
  have := vb_pos v
  have h2 := congrArg lN h
  rw [lP, lZ] at h2; omega
 | y :: q, post, v, i, acc, h, hi, ha, hv, h0 => by
  by_cases h1 : v < 128
  · rw [vb_lt h1] at h ⊢
    obtain ⟨rfl, rfl⟩ : y = UInt8.ofNat v ∧ q = post := by injection h with h2 h3; exact ⟨h2, h3⟩
    have hy : (UInt8.ofNat v).toNat = v := zy4 v (by omega)
    have h9 : i = 9 → v ≤ 1 := by
     intro e; subst e
     apply Nat.le_of_not_lt; intro hc
     have : 2 * 2 ^ (7 * 9) ≤ v * 2 ^ (7 * 9) := Nat.mul_le_mul_right _ hc
     omega
    have st := (stepv (y := UInt8.ofNat v) hi ha (by rw [hy]; exact h9)).1
    have hw1 : IntKind.i64.wrap (7 * (i : Int)) = 7 * (i : Int) := za1 (by omega) (by omega)
    rw [vint_Get.l12, st, hy]
    rw [if_neg (by simp only [Bool.and_eq_true, decide_eq_true_eq, not_and]; intro e; have := h9 (by omega); omega), zF4 (by rw [za1 (by omega) (by omega)]; omega), bS, if_neg (by omega), if_neg (by simp only [Bool.and_eq_true, decide_eq_true_eq, not_and]; intro e e2; exact h0 (by omega) (by omega))]
    rw [Nat.mod_eq_of_lt h1, za1 (x := (a : Int) + (i : Int)) (by omega) (by omega), za1 (x := (a : Int) + (i : Int) + 1) (by omega) (by omega), List.length_singleton]
    simp only [Int.natCast_add, Int.natCast_one]
  · rw [vb_ge h1] at h ⊢
    obtain ⟨rfl, rfl⟩ : y = UInt8.ofNat (v % 128 + 128) ∧ q = vb (v / 128) ++ post := by injection h with h2 h3; exact ⟨h2, h3⟩
    have hy : (UInt8.ofNat (v % 128 + 128)).toNat = v % 128 + 128 := zy4 _ (by omega)
    have hi8 : i < 9 := by
     apply Nat.lt_of_not_le; intro hc
     have : i = 9 := by omega
     subst this
     have : 128 * 2 ^ (7 * 9) ≤ v * 2 ^ (7 * 9) := Nat.mul_le_mul_right _ (by omega)
     omega
    obtain ⟨st, sb, sn⟩ := stepv (y := UInt8.ofNat (v % 128 + 128)) hi ha (by intro e; omega)
    rw [vint_Get.l12, st, hy, if_neg (by simp only [Bool.and_eq_true, decide_eq_true_eq, not_and]; intro e; omega), zF4 (by rw [za1 (by omega) (by omega)]; omega), bS, if_pos (by omega)]
    rw [hy] at sn
    have hm : (v % 128 + 128) % 128 = v % 128 := by omega
    rw [hm] at sn ⊢
    have hp : 2 ^ (7 * (i + 1)) = 128 * 2 ^ (7 * i) := by rw [show 7 * (i + 1) = 7 + 7 * i by omega, Nat.pow_add]
    have hvd : v = 128 * (v / 128) + v % 128 := (Nat.div_add_mod v 128).symm
    have hmul : v * 2 ^ (7 * i) = (v / 128) * 2 ^ (7 * (i + 1)) + (v % 128) * 2 ^ (7 * i) := by
     rw [hp]
     calc v * 2 ^ (7 * i) = (128 * (v / 128) + v % 128) * 2 ^ (7 * i) := by rw [← hvd]
      _ = _ := by rw [Nat.add_mul, Nat.mul_comm 128, Nat.mul_assoc]
    have ih := zY4 a hA (vb (v / 128) ++ post) post (v / 128) (i + 1) (acc + v % 128 * 2 ^ (7 * i)) rfl (by omega) (sn hi8) (by rw [hmul] at hv; omega) (by intro _; omega)
    rw [show ((i : Int) + 1) = ((i + 1 : Nat) : Int) by omega, ih, hmul, lC]
    congr 2
    · congr 1; omega
    · congr 2; omega
theorem zX4 (a : Nat) (hA : a ≤ 4611686018427387904) : ∀ (q : List UInt8) (i acc : Nat), i + q.length ≤ 10 → acc < 2 ^ (7 * i) → ∃ r, vint_Get.l12 (a : Int) q (i : Int) (acc : Int) = some r ∧
 (r.2.2 = 0 → ∃ v post, q = vb v ++ post ∧ v * 2 ^ (7 * i) < 2 ^ 64 ∧ (0 < i → v ≠ 0)) ∧ 0 ≤ r.2.2
 | [], i, acc, _, _ => ⟨_, rfl, (by intro h; cases h), by decide⟩
 | y :: q, i, acc, hl, ha => by
  rw [lC] at hl
  rw [vint_Get.l12]
  by_cases h9 : ((decide ((i : Int) = 9)) && (decide (1 < (y.toNat : Int)))) = true
  · rw [if_pos h9]; exact ⟨_, rfl, (by intro h; cases h), by decide⟩
  · rw [if_neg h9]
    have h9' : i = 9 → y.toNat ≤ 1 := by
     intro e
     simp only [Bool.and_eq_true, decide_eq_true_eq, not_and] at h9
     have := h9 (by omega); omega
    obtain ⟨st, sb, sn⟩ := stepv (y := y) (show i ≤ 9 by omega) ha h9'
    rw [st, zF4 (by rw [za1 (by omega) (by omega)]; omega), bS]
    have hy : y.toNat < 256 := y.toNat_lt
    by_cases h1 : (128 : Int) ≤ (y.toNat : Int)
    · rw [if_pos h1]
      have hi8 : i < 9 := by
       apply Nat.lt_of_not_le; intro hc
       have := h9' (by omega); omega
      obtain ⟨r, e, hr, h0⟩ := zX4 a hA q (i + 1) (acc + y.toNat % 128 * 2 ^ (7 * i)) (by omega) (sn hi8)
      rw [show ((i : Int) + 1) = ((i + 1 : Nat) : Int) by omega]
      refine ⟨r, e, ?_, h0⟩
      intro hz
      obtain ⟨v, post, hq, hv, hn⟩ := hr hz
      have hp : 2 ^ (7 * (i + 1)) = 128 * 2 ^ (7 * i) := by rw [show 7 * (i + 1) = 7 + 7 * i by omega, Nat.pow_add]
      have hvn := hn (by omega)
      have hw : ¬ (v * 128 + y.toNat % 128) < 128 := by omega
      refine ⟨v * 128 + y.toNat % 128, post, ?_, ?_, by intro _; omega⟩
      · rw [vb_ge hw, show (v * 128 + y.toNat % 128) % 128 + 128 = y.toNat by omega, show (v * 128 + y.toNat % 128) / 128 = v by omega, UInt8.ofNat_toNat, hq]; rfl
      · rw [hp] at hv
        have hmul : (v * 128 + y.toNat % 128) * 2 ^ (7 * i) = v * (128 * 2 ^ (7 * i)) + y.toNat % 128 * 2 ^ (7 * i) := by rw [Nat.add_mul, Nat.mul_assoc]
        rw [hmul]
        by_cases hi7 : i < 9
        · have hd : y.toNat % 128 * 2 ^ (7 * i) < 128 * 2 ^ (7 * i) := Nat.mul_lt_mul_of_pos_right (by omega) (Nat.pow_pos (by decide))
          have h64 : 128 * 2 ^ (7 * i) ∣ 2 ^ 64 := by rw [← hp]; exact Nat.pow_dvd_pow 2 (by omega)
          obtain ⟨c, hc⟩ := h64
          rw [hc] at hv ⊢
          have hvc : v < c := by
           apply Nat.lt_of_not_le; intro hle
           have := Nat.mul_le_mul_right (128 * 2 ^ (7 * i)) hle
           rw [Nat.mul_comm c] at this; omega
          have h3 : (v + 1) * (128 * 2 ^ (7 * i)) ≤ c * (128 * 2 ^ (7 * i)) := Nat.mul_le_mul_right _ hvc
          rw [Nat.add_mul, Nat.one_mul] at h3
          rw [Nat.mul_comm (128 * 2 ^ (7 * i)) c]; omega
        · omega
    · rw [if_neg h1]
      by_cases h2 : ((decide ((y.toNat : Int) = 0)) && (decide (0 < (i : Int)))) = true
      · rw [if_pos h2]; exact ⟨_, rfl, (by intro h; cases h), by decide⟩
      · rw [if_neg h2]
        refine ⟨_, rfl, ?_, Int.le_refl 0⟩
        intro _
        refine ⟨y.toNat, q, ?_, ?_, ?_⟩
        · rw [vb_lt (by omega), UInt8.ofNat_toNat]; rfl
        · rw [Nat.mod_eq_of_lt (by omega)] at sb; omega
        · intro hi e
          apply h2
          simp only [Bool.and_eq_true, decide_eq_true_eq]; omega
theorem get_head {b : List UInt8} {n : Nat} (hb : b.length ≤ 4096) (hn : n ≤ b.length) : vint_Get b (n : Int) = vint_Get.l12 (n : Int) ((b.drop n).take 10) 0 0 := by
 have e1 : IntKind.i64.wrap ((lN b : Int) - (n : Int)) = ((b.length - n : Nat) : Int) := by rw [za1 (by omega) (by omega)]; omega
 rw [vint_Get, if_neg (by simp only [Bool.or_eq_true, decide_eq_true_eq]; omega), e1]
 by_cases h : (10 : Int) < ((b.length - n : Nat) : Int)
 · rw [if_pos h]
   have e2 : IntKind.i64.wrap ((n : Int) + 10) = ((n + 10 : Nat) : Int) := by rw [za1 (by omega) (by omega)]; omega
   rw [e2, zF4 (by omega), bS, cutL, Int.toNat_natCast, Int.toNat_natCast, show n + 10 - n = 10 by omega]
 · rw [if_neg h]
   have e2 : IntKind.i64.wrap ((n : Int) + ((b.length - n : Nat) : Int)) = (b.length : Int) := by rw [za1 (by omega) (by omega)]; omega
   rw [e2, zF4 (by omega), bS, cutL, Int.toNat_natCast, Int.toNat_natCast, List.take_of_length_le (by rw [List.length_drop]; exact nR _), List.take_of_length_le (by rw [List.length_drop]; omega)]
theorem get_ok {b post : List UInt8} {n v : Nat} (hb : b.length ≤ 4096) (hn : n ≤ b.length) (h : b.drop n = vb v ++ post) (hv : v < 2 ^ 64) : vint_Get b (n : Int) = some ((v : Int), ((n + (vb v).length : Nat) : Int), 0) := by
 have := zY4 n (by omega) ((b.drop n).take 10) (post.take (10 - (vb v).length)) v 0 0 (by rw [h, List.take_append, List.take_of_length_le (vb_len10 hv)]) (by omega) (by decide) (by omega) (by omega)
 rw [get_head hb hn]
 simpa using this
theorem get_inv {b : List UInt8} {n : Nat} (hb : b.length ≤ 4096) (hn : n ≤ b.length) : ∃ r, vint_Get b (n : Int) = some r ∧ (r.2.2 = 0 → ∃ v post, b.drop n = vb v ++ post ∧ v < 2 ^ 64 ∧ r = ((v : Int), ((n + (vb v).length : Nat) : Int), 0)) ∧ 0 ≤ r.2.2 := by
 obtain ⟨r, e, hr, h0⟩ := zX4 n (by omega) ((b.drop n).take 10) 0 0 (by rw [List.length_take]; omega) (by decide)
 rw [get_head hb hn]
 refine ⟨r, e, ?_, h0⟩
 intro hz
 obtain ⟨v, post, hq, hv, _⟩ := hr hz
 have hv' : v < 2 ^ 64 := by omega
 have hd : b.drop n = vb v ++ (post ++ (b.drop n).drop 10) := by
  rw [← aA, ← hq, List.take_append_drop]
 refine ⟨v, _, hd, hv', ?_⟩
 have := get_ok hb hn hd hv'
 rw [get_head hb hn] at this
 exact Option.some.inj (e.symm.trans this)
end Go.Proofs.YtaddlmlpeghonaaDoor
end
section
set_option maxRecDepth 4000
namespace Go.Proofs.YtaddlmlpeghonaaDoor
open AM
def In64 (n : Int) : Prop := -9223372036854775808 ≤ n ∧ n < 9223372036854775808
def zg (n : Int) : Nat := if 0 ≤ n then (2 * n).toNat else (-2 * n - 1).toNat
def zu (v : Nat) : Int := if v % 2 = 0 then ((v / 2 : Nat) : Int) else -((v / 2 : Nat) : Int) - 1
theorem zg_lt {n : Int} (h : In64 n) : zg n < 2 ^ 64 := by
 unfold zg; obtain ⟨h1, h2⟩ := h; split <;> omega
theorem zu_zg (n : Int) : zu (zg n) = n := by
 unfold zg zu; split <;> split <;> omega
theorem zg_zu (v : Nat) : zg (zu v) = v := by
 unfold zg zu; split <;> split <;> omega
theorem zu_in {v : Nat} (h : v < 2 ^ 64) : In64 (zu v) := by
 unfold zu In64; split <;> omega
theorem bvm1 : BitVec.ofInt 64 (-1) = BitVec.allOnes 64 := by decide
theorem bv0 : BitVec.ofInt 64 0 = 0#64 := by decide
theorem fdiv2 (n : Int) (k : Nat) : Int.fdiv n (2 ^ k) = n / (2 ^ k) := Int.fdiv_eq_ediv_of_nonneg _ (Int.le_of_lt (Int.pow_pos (by decide)))
theorem vint_Zig_eq {n : Int} (h : In64 n) : vint_Zig n = (zg n : Int) := by
 obtain ⟨h1, h2⟩ := h
 unfold vint_Zig zg
 rw [show min (Int.toNat 1) 64 = 1 from rfl, show min (Int.toNat 63) 64 = 63 from rfl, fdiv2]
 by_cases h0 : 0 ≤ n
 · have e : n / 2 ^ 63 = 0 := Int.ediv_eq_zero_of_lt h0 (by omega)
   rw [if_pos h0, e, show IntKind.u64.wrap 0 = 0 from by rw [IntKind.wrap_u64]; rfl, bv0, BitVec.xor_zero]
   have e2 : IntKind.u64.wrap (IntKind.u64.wrap n * 2 ^ 1) = (((2 * n).toNat : Nat) : Int) := by rw [IntKind.wrap_u64, IntKind.wrap_u64]; omega
   rw [e2, bv64 (by omega), u64w (by omega)]
 · have e : n / 2 ^ 63 = -1 := by omega
   have e1 : IntKind.u64.wrap (-1) = 18446744073709551615 := by rw [IntKind.wrap_u64]; rfl
   have e3 : BitVec.ofInt 64 18446744073709551615 = BitVec.allOnes 64 := by decide
   rw [if_neg h0, e, e1, e3, BitVec.xor_allOnes, BitVec.toNat_not]
   have e2 : IntKind.u64.wrap (IntKind.u64.wrap n * 2 ^ 1) = (((2 * n + 18446744073709551616).toNat : Nat) : Int) := by rw [IntKind.wrap_u64, IntKind.wrap_u64]; omega
   rw [e2, bv64 (by omega), u64w (by omega)]
   omega
theorem vint_Zag_eq {v : Nat} (h : v < 2 ^ 64) : vint_Zag (v : Int) = zu v := by
 unfold vint_Zag zu
 rw [show min (Int.toNat 1) 64 = 1 from rfl, fdiv2]
 have ea : (BitVec.ofInt 64 (v : Int) &&& BitVec.ofInt 64 1).toNat = v % 2 := by
  rw [BitVec.toNat_and, bv64 h, show (BitVec.ofInt 64 1).toNat = 1 from by decide, Nat.and_one_is_mod]
 have e1 : IntKind.i64.wrap ((v : Int) / 2 ^ 1) = ((v / 2 : Nat) : Int) := by rw [za1 (by omega) (by omega)]; omega
 rw [ea, e1, u64w (n := v % 2) (by omega)]
 by_cases h0 : v % 2 = 0
 · rw [if_pos h0, h0]
   have e2 : IntKind.i64.wrap (0 - IntKind.i64.wrap ((0 : Nat) : Int)) = 0 := by decide
   rw [e2, bv0, BitVec.xor_zero, bv64 (by omega), za1 (by omega) (by omega)]
 · have h1 : v % 2 = 1 := by omega
   rw [if_neg h0, h1]
   have e2 : IntKind.i64.wrap (0 - IntKind.i64.wrap ((1 : Nat) : Int)) = -1 := by decide
   rw [e2, bvm1, BitVec.xor_allOnes, BitVec.toNat_not, bv64 (by omega), IntKind.wrap_i64]
   omega
def zt2 (r : GRaw) : Prop := wire_Check r = true ∧ In64 r.fN
def keyN (r : GRaw) : Nat := (2 * r.fTag + r.fWire).toNat
def rawB (r : GRaw) : List UInt8 := vb (keyN r) ++ (if r.fWire = 0 then vb (zg r.fN) else vb r.fB.length ++ r.fB)
def zl1 (l : List GRaw) : List UInt8 := l.flatMap rawB
theorem zd2 {r : GRaw} (h : wire_Check r = true) : 1 ≤ r.fTag ∧ r.fTag ≤ 500 ∧ ((r.fWire = 0 ∧ r.fB = []) ∨ (r.fWire = 1 ∧ r.fN = 0 ∧ r.fB.length ≤ 4096)) := by
 unfold wire_Check at h
 split at h
 · cases h
 · rename_i h1
   simp only [Bool.or_eq_true, decide_eq_true_eq, not_or] at h1
   refine ⟨by omega, by omega, ?_⟩
   split at h
   · left; exact ⟨‹_›, by simpa using h⟩
   · split at h
     · right
       simp only [Bool.and_eq_true, decide_eq_true_eq] at h
       exact ⟨‹_›, h.1, by omega⟩
     · cases h
theorem check_num {t n : Int} (h1 : 1 ≤ t) (h2 : t ≤ 500) : wire_Check ⟨t, 0, n, []⟩ = true := by
 unfold wire_Check
 rw [if_neg (by simp only [Bool.or_eq_true, decide_eq_true_eq]; omega)]; rfl
theorem zu4 {t : Int} {s : List UInt8} (h1 : 1 ≤ t) (h2 : t ≤ 500) (h3 : s.length ≤ 4096) : wire_Check ⟨t, 1, 0, s⟩ = true := by
 unfold wire_Check
 rw [if_neg (by simp only [Bool.or_eq_true, decide_eq_true_eq]; omega)]
 simp only [decide_true, Bool.true_and]
 rw [if_neg (by decide), if_pos trivial]; exact decide_eq_true (by omega)
theorem rawB_pos (r : GRaw) : 2 ≤ (rawB r).length := by
 unfold rawB
 have h1 := vb_pos (keyN r)
 have h2 := vb_pos (zg r.fN)
 have h3 := vb_pos r.fB.length
 split <;> simp only [lP] <;> omega
theorem wire_Put_eq {a : List UInt8} {r : GRaw} (h : zt2 r) (ha : a.length ≤ 1000000) : wire_Put a r = some (a ++ rawB r, true) := by
 obtain ⟨hc, hn⟩ := h
 obtain ⟨h1, h2, h3⟩ := zd2 hc
 unfold wire_Put bnd
 rw [hc]; simp only []
 have ek : IntKind.u64.wrap (IntKind.i64.wrap ((IntKind.i64.wrap (2 * r.fTag)) + r.fWire)) = ((keyN r : Nat) : Int) := by
  rw [za1 (x := 2 * r.fTag) (by omega) (by omega), za1 (by omega) (by omega), u64i (by omega) (by omega), keyN]; omega
 have k1 : keyN r < 2 ^ 64 := by unfold keyN; omega
 have kl := vb_len10 k1
 rw [if_neg (by decide), ek, zI3 a k1 (by omega), bS]
 rcases h3 with ⟨h3, h4⟩ | ⟨h3, h4, h5⟩
 · rw [if_pos h3, vint_Zig_eq hn, zI3 _ (zg_lt hn) (by rw [lP]; omega), bS, rawB, if_pos h3, aA]
 · have hb := vb_len10 (n := r.fB.length) (by omega)
   rw [if_neg (by omega), u64w (by omega), zI3 _ (by omega) (by rw [lP]; omega), bS, zq1 (by simp only [lP]; omega), bS, rawB, if_neg (by omega)]
   simp only [aA]
theorem putAll_l11 : ∀ (q : List GRaw) (x : Int) (acc : List UInt8), (∀ r ∈ q, zt2 r) → acc.length ≤ 4096 → wire_PutAll.l11 q x acc = some (if 4096 < (acc ++ zl1 q).length then ([], 4) else (acc ++ zl1 q, 0))
 | [], x, acc, _, ha => by
  rw [wire_PutAll.l11, zl1, fZ, aN, if_neg (by omega)]
 | r :: q, x, acc, h, ha => by
  have hr := h r (mS ..)
  rw [wire_PutAll.l11, wire_Put_eq hr (by omega), bS]; dsimp only
  have e : acc ++ zl1 (r :: q) = (acc ++ rawB r) ++ zl1 q := by rw [zl1, fC, aA]; rfl
  rw [e]
  by_cases h1 : 4096 < (acc ++ rawB r).length
  · rw [if_pos (by omega), if_pos (by rw [lP]; omega)]
  · rw [if_neg (by omega), putAll_l11 q (x + 1) _ (fun s hs => h s (mO _ hs)) (by omega)]
theorem putAll_l4 (a : List GRaw) : ∀ (q : List GRaw) (x : Int), wire_PutAll.l4 a q x = if q.all wire_Check then wire_PutAll.l11 a 0 [] else some ([], 1)
 | [], x => by rw [wire_PutAll.l4]; rfl
 | r :: q, x => by
  rw [wire_PutAll.l4, bnd, List.all_cons]
  by_cases h : wire_Check r = true
  · rw [h, if_neg (by decide), putAll_l4 a q]; rfl
  · rw [if_pos (by simpa using h), if_neg (by rw [Bool.and_eq_true]; exact fun hh => h hh.1)]
theorem putAll_eq {l : List GRaw} (h : ∀ r ∈ l, In64 r.fN) : wire_PutAll l = some (if l.all wire_Check then (if 4096 < (zl1 l).length then ([], 4) else (zl1 l, 0)) else ([], 1)) := by
 rw [wire_PutAll, putAll_l4]
 by_cases h1 : l.all wire_Check = true
 · rw [if_pos h1, if_pos h1, putAll_l11 l 0 [] (fun r hr => ⟨List.all_eq_true.1 h1 r hr, h r hr⟩) (by decide)]; rfl
 · rw [if_neg h1, if_neg h1]
theorem zq2 {b x post : List UInt8} {n : Nat} (h : b.drop n = x ++ post) : b.drop (n + x.length) = post := by
 rw [← List.drop_drop, h, List.drop_left' rfl]
theorem zy3 {b x post : List UInt8} {n : Nat} (hn : n ≤ b.length) (h : b.drop n = x ++ post) : n + x.length + post.length = b.length := by
 have := congrArg lN h
 rw [List.length_drop, lP] at this; omega
theorem one_ok {b post : List UInt8} {n : Nat} {r : GRaw} (hb : b.length ≤ 4096) (hn : n ≤ b.length) (h : b.drop n = rawB r ++ post) (hr : zt2 r) : wire_one b (n : Int) = some (r, ((n + (rawB r).length : Nat) : Int), 0) := by
 obtain ⟨hc, hN⟩ := hr
 obtain ⟨h1, h2, h3⟩ := zd2 hc
 have k1 : keyN r < 2 ^ 64 := by unfold keyN; omega
 rw [rawB, aA] at h
 have hl := zy3 hn h
 unfold wire_one
 rw [get_ok hb hn h k1, bS]
 have hk : keyN r = (2 * r.fTag + r.fWire).toNat := rfl
 have d1 : ((keyN r : Nat) : Int).tdiv 2 = r.fTag := by rw [Int.tdiv_eq_ediv_of_nonneg (by omega), hk]; rcases h3 with h3 | h3 <;> omega
 have d2 : ((keyN r : Nat) : Int).tmod 2 = r.fWire := by rw [Int.tmod_eq_emod_of_nonneg (by omega), hk]; rcases h3 with h3 | h3 <;> omega
 simp only [d1, d2]
 rw [if_pos trivial, if_neg (by rw [u64i (by omega) (by omega)]; simp only [Bool.or_eq_true, decide_eq_true_eq]; omega), u64i (x := r.fTag) (by omega) (by omega), za1 (x := r.fTag) (by omega) (by omega), za1 (x := r.fWire) (by omega) (by omega)]
 have h' := zq2 h
 rcases h3 with ⟨h3, h4⟩ | ⟨h3, h4, h5⟩
 · rw [if_pos h3] at h'
   rw [get_ok hb (by omega) h' (zg_lt hN), bS]
   simp only []
   rw [if_pos trivial, if_pos h3, bnd, vint_Zag_eq (zg_lt hN), zu_zg, rawB, if_pos h3]
   have e : r = ⟨r.fTag, r.fWire, r.fN, []⟩ := by cases r; simp only at h4; subst h4; rfl
   rw [← e, lP, Nat.add_assoc]
 · rw [if_neg (by omega)] at h' hl
   rw [aA] at h'
   have hl' := zy3 (by omega) h'
   rw [lP] at hl'
   rw [get_ok hb (by omega) h' (show r.fB.length < 2 ^ 64 by omega), bS]
   simp only []
   have h'' := zq2 h'
   have e1 : IntKind.i64.wrap ((b.length : Int) - ((n + (vb (keyN r)).length + (vb r.fB.length).length : Nat) : Int)) = ((r.fB.length + post.length : Nat) : Int) := by rw [za1 (by omega) (by omega)]; omega
   have e2 : IntKind.i64.wrap (r.fB.length : Int) = (r.fB.length : Int) := za1 (by omega) (by omega)
   have e3 : IntKind.i64.wrap (((n + (vb (keyN r)).length + (vb r.fB.length).length : Nat) : Int) + (r.fB.length : Int)) = ((n + (vb (keyN r)).length + (vb r.fB.length).length + r.fB.length : Nat) : Int) := by rw [za1 (by omega) (by omega)]; omega
   rw [if_pos trivial, if_neg (by omega), e1, u64w (by omega), if_neg (by omega), e2, e3, zF4 (by omega), bS, cutL, Int.toNat_natCast, Int.toNat_natCast, h'', Nat.add_sub_cancel_left, List.take_left' rfl, rawB, if_neg (by omega), lP, lP]
   have e : r = ⟨r.fTag, r.fWire, 0, r.fB⟩ := by cases r; simp only at h4; subst h4; rfl
   rw [← e, show n + (vb (keyN r)).length + (vb r.fB.length).length + r.fB.length = n + ((vb (keyN r)).length + ((vb r.fB.length).length + r.fB.length)) by omega]
theorem one_inv {b : List UInt8} {n : Nat} (hb : b.length ≤ 4096) (hn : n ≤ b.length) : ∃ r, wire_one b (n : Int) = some r ∧
 (r.2.2 = 0 → ∃ x post, b.drop n = rawB x ++ post ∧ zt2 x ∧ r = (x, ((n + (rawB x).length : Nat) : Int), 0)) ∧ 0 ≤ r.2.2 := by
 obtain ⟨r1, e1, i1, p1⟩ := get_inv hb hn
 by_cases z1 : r1.2.2 = 0
 · obtain ⟨v, post, hd, hv, rfl⟩ := i1 z1
   have hl := zy3 hn hd
   have hd' := zq2 hd
   by_cases c1 : (decide ((v : Int) < 2) || decide ((500 : Int) < IntKind.u64.wrap ((v : Int).tdiv 2))) = true
   · refine ⟨_, by unfold wire_one; rw [e1, bS, if_pos rfl, if_pos c1], ?_, by decide⟩
     intro h; exact absurd h (by decide)
   · have c1' := c1
     simp only [Bool.or_eq_true, decide_eq_true_eq, not_or] at c1
     obtain ⟨c2, c3⟩ := c1
     have d1 : (v : Int).tdiv 2 = ((v / 2 : Nat) : Int) := by rw [Int.tdiv_eq_ediv_of_nonneg (by omega)]; omega
     have d2 : (v : Int).tmod 2 = ((v % 2 : Nat) : Int) := by rw [Int.tmod_eq_emod_of_nonneg (by omega)]; omega
     rw [d1, u64w (by omega)] at c3
     obtain ⟨r2, e2, i2, p2⟩ := get_inv hb (n := n + (vb v).length) (by omega)
     by_cases z2 : r2.2.2 = 0
     · obtain ⟨w, post2, hd2, hw, rfl⟩ := i2 z2
       have hl2 := zy3 (by omega) hd2
       by_cases c4 : v % 2 = 0
       · have ok : zt2 ⟨((v / 2 : Nat) : Int), 0, zu w, []⟩ := ⟨check_num (by omega) (by omega), zu_in hw⟩
         have hkey : keyN ⟨((v / 2 : Nat) : Int), 0, zu w, []⟩ = v := by unfold keyN; simp only []; omega
         have hdr : b.drop n = rawB ⟨((v / 2 : Nat) : Int), 0, zu w, []⟩ ++ post2 := by
          rw [rawB, hkey, if_pos rfl]; simp only [zg_zu]; rw [hd, ← hd', hd2, aA]
         refine ⟨_, one_ok hb hn hdr ok, ?_, Int.le_refl 0⟩
         intro _; exact ⟨_, _, hdr, ok, rfl⟩
       · have c5 : v % 2 = 1 := by omega
         by_cases c6 : w ≤ post2.length
         · have ok : zt2 ⟨((v / 2 : Nat) : Int), 1, 0, post2.take w⟩ := ⟨zu4 (by omega) (by omega) (by rw [List.length_take]; omega), (show In64 0 from ⟨by decide, by decide⟩)⟩
           have hkey : keyN ⟨((v / 2 : Nat) : Int), 1, 0, post2.take w⟩ = v := by unfold keyN; simp only []; omega
           have hdr : b.drop n = rawB ⟨((v / 2 : Nat) : Int), 1, 0, post2.take w⟩ ++ post2.drop w := by
            rw [rawB, hkey, if_neg (show ¬ (1 : Int) = 0 by decide)]
            simp only [List.length_take, Nat.min_eq_left c6]
            rw [hd, ← hd', hd2, aA, aA, List.take_append_drop]
           refine ⟨_, one_ok hb hn hdr ok, ?_, Int.le_refl 0⟩
           intro _; exact ⟨_, _, hdr, ok, rfl⟩
         · have e3 : IntKind.i64.wrap ((b.length : Int) - ((n + (vb v).length + (vb w).length : Nat) : Int)) = ((post2.length : Nat) : Int) := by rw [za1 (by omega) (by omega)]; omega
           refine ⟨_, by unfold wire_one; rw [e1, bS, if_pos rfl, if_neg c1', e2, bS, if_pos rfl, d2, if_neg (by rw [za1 (by omega) (by omega)]; omega), e3, u64w (by omega), if_pos (by omega)], ?_, by decide⟩
           intro h; exact absurd h (by decide)
     · refine ⟨_, by unfold wire_one; rw [e1, bS, if_pos rfl, if_neg c1', e2, bS, if_neg z2], ?_, p2⟩
       intro h; exact absurd h z2
 · refine ⟨_, by unfold wire_one; rw [e1, bS, if_neg z1], ?_, p1⟩
   intro h; exact absurd h z1
theorem ze1 (r : GRaw) (l : List GRaw) : zl1 (r :: l) = rawB r ++ zl1 l := by rw [zl1, fC]; rfl
theorem zV1 (l m : List GRaw) : zl1 (l ++ m) = zl1 l ++ zl1 m := by rw [zl1, fA]; rfl
theorem get_l_ok {b : List UInt8} (hb : b.length ≤ 4096) : ∀ (l : List GRaw) (k n : Nat) (acc : List GRaw), n ≤ b.length → b.drop n = zl1 l → (∀ r ∈ l, zt2 r) → 2 * acc.length ≤ n → b.length < k + n →
 wire_Get.l12 b k acc (n : Int) = some (acc ++ l, 0)
 | l, 0, n, acc, hn, _, _, _, hk => by omega
 | [], k + 1, n, acc, hn, hd, _, _, hk => by
  have := congrArg lN hd
  rw [List.length_drop, zl1, fZ, lZ] at this
  rw [wire_Get.l12, if_neg (by omega), aN]
 | r :: l, k + 1, n, acc, hn, hd, hr, ha, hk => by
  rw [ze1] at hd
  have hl := zy3 hn hd
  have h2 := rawB_pos r
  rw [wire_Get.l12, if_pos (by omega), one_ok hb hn hd (hr r (mS ..)), bS, if_pos rfl, zq1 (by omega), bS]
  rw [get_l_ok hb l k (n + (rawB r).length) (acc ++ [r]) (by omega) (zq2 hd) (fun s hs => hr s (mO _ hs)) (by rw [lP, List.length_singleton]; omega) (by omega), aA]; rfl
theorem get_l_inv {b : List UInt8} (hb : b.length ≤ 4096) : ∀ (k n : Nat) (acc : List GRaw), n ≤ b.length → 2 * acc.length ≤ n → b.length < k + n →
 ∃ r, wire_Get.l12 b k acc (n : Int) = some r ∧ (r.2 = 0 → ∃ l, b.drop n = zl1 l ∧ (∀ r ∈ l, zt2 r) ∧ r = (acc ++ l, 0)) ∧ 0 ≤ r.2 ∧ (r.2 ≠ 0 → r.1 = [])
 | 0, n, acc, hn, _, hk => by omega
 | k + 1, n, acc, hn, ha, hk => by
  by_cases h : n < b.length
  · obtain ⟨r1, e1, i1, p1⟩ := one_inv hb hn
    by_cases z1 : r1.2.2 = 0
    · obtain ⟨x, post, hd, ok, rfl⟩ := i1 z1
      have hl := zy3 hn hd
      have h2 := rawB_pos x
      obtain ⟨r2, e2, i2, p2⟩ := get_l_inv hb k (n + (rawB x).length) (acc ++ [x]) (by omega) (by rw [lP, List.length_singleton]; omega) (by omega)
      refine ⟨r2, by rw [wire_Get.l12, if_pos (by omega), e1, bS, if_pos rfl, zq1 (by omega), bS]; exact e2, ?_, p2⟩
      intro hz
      obtain ⟨l, hd2, hok, rfl⟩ := i2 hz
      refine ⟨x :: l, ?_, ?_, by rw [aA]; rfl⟩
      · rw [ze1, hd, ← hd2, zq2 hd]
      · intro s hs
        rcases mI.1 hs with rfl | hs
        · exact ok
        · exact hok s hs
    · refine ⟨_, by rw [wire_Get.l12, if_pos (by omega), e1, bS, if_neg z1], fun h => absurd h z1, p1, fun _ => rfl⟩
  · refine ⟨_, by rw [wire_Get.l12, if_neg (by omega)], fun _ => ⟨[], ?_, (fun r hr => by cases hr), by rw [aN]⟩, Int.le_refl 0, fun h => absurd rfl h⟩
    rw [List.drop_eq_nil_of_le (by omega)]; rfl
theorem get_rounds : 4097 ≤ rounds := by decide
theorem wire_Get_ok {l : List GRaw} (h : ∀ r ∈ l, zt2 r) (hb : (zl1 l).length ≤ 4096) : wire_Get (zl1 l) = some (l, 0) := by
 rw [wire_Get, if_neg (by omega)]
 have := get_l_ok hb l rounds 0 [] (Nat.zero_le _) rfl h (nR _) (by have := get_rounds; omega)
 simpa using this
theorem zv4 (b : List UInt8) : ∃ r, wire_Get b = some r ∧ (r.2 = 0 → b = zl1 r.1 ∧ b.length ≤ 4096 ∧ ∀ x ∈ r.1, zt2 x) ∧ 0 ≤ r.2 ∧ (r.2 ≠ 0 → r.1 = []) := by
 by_cases hb : b.length ≤ 4096
 · obtain ⟨r, e, i, p, q⟩ := get_l_inv hb rounds 0 [] (Nat.zero_le _) (nR _) (by have := get_rounds; omega)
   refine ⟨r, by rw [wire_Get, if_neg (by omega)]; exact e, ?_, p, q⟩
   intro hz
   obtain ⟨l, hd, ok, rfl⟩ := i hz
   exact ⟨hd, hb, ok⟩
 · refine ⟨_, by rw [wire_Get, if_pos (by omega)], fun h => absurd h (by decide), by decide, fun _ => rfl⟩
end Go.Proofs.YtaddlmlpeghonaaDoor
end
section
set_option maxRecDepth 4000
namespace Go.Proofs.YtaddlmlpeghonaaDoor
open AM
def insR (r : GRaw) : List GRaw → List GRaw
 | [] => [r]
 | x :: l => if r.fTag < x.fTag then r :: x :: l else x :: insR r l
def srtA : List GRaw → List GRaw → List GRaw
 | [], S => S
 | r :: q, S => srtA q (insR r S)
def srt (l : List GRaw) : List GRaw := srtA l []
def TagLe (a b : GRaw) : Prop := a.fTag ≤ b.fTag
theorem insR_app {r : GRaw} : ∀ {A B : List GRaw}, (∀ a ∈ A, a.fTag ≤ r.fTag) → (∀ b ∈ B, r.fTag < b.fTag) → insR r (A ++ B) = A ++ r :: B
 | [], [], _, _ => rfl
 | [], b :: B, _, hB => by
  rw [nA, insR, if_pos (hB b (mS ..))]; rfl
 | a :: A, B, hA, hB => by
  rw [cA, insR, if_neg (by have := hA a (mS ..); omega), insR_app (fun x hx => hA x (mO _ hx)) hB]; rfl
theorem insR_mem {r x : GRaw} : ∀ {l : List GRaw}, x ∈ insR r l ↔ x = r ∨ x ∈ l
 | [] => by simp [insR]
 | y :: l => by
  rw [insR]; split
  · simp
  · rw [mI, insR_mem, mI]
    constructor
    · rintro (h | h | h)
      · exact Or.inr (Or.inl h)
      · exact Or.inl h
      · exact Or.inr (Or.inr h)
    · rintro (h | h | h)
      · exact Or.inr (Or.inl h)
      · exact Or.inl h
      · exact Or.inr (Or.inr h)
theorem zP4 (r : GRaw) : ∀ l : List GRaw, (insR r l).length = l.length + 1
 | [] => rfl
 | x :: l => by
  rw [insR]; split
  · rfl
  · rw [lC, zP4 r l, lC]
theorem zm2 {r : GRaw} : ∀ {l : List GRaw}, l.Pairwise TagLe → (insR r l).Pairwise TagLe
 | [], _ => by simp [insR]
 | x :: l, h => by
  rw [pC] at h
  rw [insR]; split
  · rename_i hlt
    rw [pC, pC]
    refine ⟨?_, h⟩
    intro y hy
    rcases mI.1 hy with rfl | hy
    · unfold TagLe; omega
    · have := h.1 y hy; unfold TagLe at *; omega
  · rename_i hge
    rw [pC]
    refine ⟨?_, zm2 h.2⟩
    intro y hy
    rcases insR_mem.1 hy with rfl | hy
    · unfold TagLe; omega
    · exact h.1 y hy
theorem zu5 {r : GRaw} (t : Int) : ∀ {l : List GRaw}, l.Pairwise TagLe → (insR r l).filter (fun x => x.fTag = t) = l.filter (fun x => x.fTag = t) ++ (if r.fTag = t then [r] else [])
 | [], _ => by rw [insR, List.filter_nil, nA, List.filter_cons, List.filter_nil]; simp only [decide_eq_true_eq]
 | x :: l, h => by
  rw [pC] at h
  rw [insR]; split
  · rename_i hlt
    rw [List.filter_cons]
    by_cases hr : r.fTag = t
    · have hn : (x :: l).filter (fun x => x.fTag = t) = [] := by
       rw [List.filter_eq_nil_iff]
       intro y hy
       simp only [decide_eq_true_eq]
       rcases mI.1 hy with rfl | hy
       · omega
       · have := h.1 y hy; unfold TagLe at this; omega
      rw [hn, if_pos (by simpa using hr), if_pos hr]; rfl
    · rw [if_neg (by simpa using hr), if_neg hr, aN]
  · rw [List.filter_cons, List.filter_cons, zu5 t h.2]
    split <;> rfl
theorem ze5 : ∀ {l S : List GRaw}, S.Pairwise TagLe → (srtA l S).Pairwise TagLe
 | [], _, h => h
 | r :: l, S, h => by rw [srtA]; exact ze5 (l := l) (zm2 h)
theorem zl4 (l : List GRaw) : (srt l).Pairwise TagLe := ze5 List.Pairwise.nil
theorem srtA_len : ∀ (l S : List GRaw), (srtA l S).length = S.length + l.length
 | [], _ => rfl
 | r :: l, S => by rw [srtA, srtA_len, zP4, lC]; omega
theorem srt_len (l : List GRaw) : (srt l).length = l.length := by rw [srt, srtA_len, lZ, nZ]
theorem srtA_mem {x : GRaw} : ∀ {l S : List GRaw}, x ∈ srtA l S ↔ x ∈ S ∨ x ∈ l
 | [], S => by simp [srtA]
 | r :: l, S => by
  rw [srtA, srtA_mem, insR_mem, mI]
  constructor
  · rintro ((h | h) | h)
    · exact Or.inr (Or.inl h)
    · exact Or.inl h
    · exact Or.inr (Or.inr h)
  · rintro (h | h | h)
    · exact Or.inl (Or.inr h)
    · exact Or.inl (Or.inl h)
    · exact Or.inr h
theorem srt_mem {x : GRaw} {l : List GRaw} : x ∈ srt l ↔ x ∈ l := by rw [srt, srtA_mem]; simp
theorem zf5 (t : Int) : ∀ {l S : List GRaw}, S.Pairwise TagLe → (srtA l S).filter (fun x => x.fTag = t) = S.filter (fun x => x.fTag = t) ++ l.filter (fun x => x.fTag = t)
 | [], S, _ => by rw [srtA, List.filter_nil, aN]
 | r :: l, S, h => by
  rw [srtA, zf5 t (zm2 h), zu5 t h, List.filter_cons, aA]
  congr 1
  simp only [decide_eq_true_eq]
  split <;> rfl
theorem srt_filter (l : List GRaw) (t : Int) : (srt l).filter (fun x => x.fTag = t) = l.filter (fun x => x.fTag = t) := by
 rw [srt, zf5 t List.Pairwise.nil]; rfl
theorem srtA_id : ∀ {l S : List GRaw}, (S ++ l).Pairwise TagLe → srtA l S = S ++ l
 | [], S, _ => by rw [srtA, aN]
 | r :: l, S, h => by
  have hS : ∀ a ∈ S, a.fTag ≤ r.fTag := fun a ha => (List.pairwise_append.1 h).2.2 a ha r (mS ..)
  have e : insR r S = S ++ [r] := by
   have := insR_app (r := r) (A := S) (B := []) hS (fun b hb => by cases hb)
   rwa [aN] at this
  rw [srtA, e, srtA_id (by rwa [aA]), aA]; rfl
theorem srt_id {l : List GRaw} (h : l.Pairwise TagLe) : srt l = l := srtA_id (S := []) h
theorem sorted_ext : ∀ {l m : List GRaw}, l.Pairwise TagLe → m.Pairwise TagLe → (∀ t : Int, l.filter (fun x => x.fTag = t) = m.filter (fun x => x.fTag = t)) → l = m
 | [], [], _, _, _ => rfl
 | [], y :: m, _, _, h => by
  have := h y.fTag
  rw [List.filter_nil, List.filter_cons, if_pos (by simp)] at this; cases this
 | x :: l, [], _, _, h => by
  have := h x.fTag
  rw [List.filter_nil, List.filter_cons, if_pos (by simp)] at this; cases this
 | x :: l, y :: m, hl, hm, h => by
  rw [pC] at hl hm
  have hxy : x.fTag = y.fTag := by
   have h1 : x ∈ (y :: m).filter (fun z => z.fTag = x.fTag) := by rw [← h, List.filter_cons, if_pos (by simp)]; exact mS ..
   have h2 : y ∈ (x :: l).filter (fun z => z.fTag = y.fTag) := by rw [h, List.filter_cons, if_pos (by simp)]; exact mS ..
   have a1 : y.fTag ≤ x.fTag := by
    rcases mI.1 (List.mem_filter.1 h1).1 with e | h1
    · rw [e]; exact Int.le_refl _
    · exact hm.1 x h1
   have a2 : x.fTag ≤ y.fTag := by
    rcases mI.1 (List.mem_filter.1 h2).1 with e | h2
    · rw [e]; exact Int.le_refl _
    · exact hl.1 y h2
   omega
  have e : x = y := by
   have := h x.fTag
   rw [List.filter_cons, List.filter_cons, if_pos (by simp), if_pos (by simp [hxy])] at this
   injection this
  subst e
  congr 1
  refine sorted_ext hl.2 hm.2 fun t => ?_
  have := h t
  rw [List.filter_cons, List.filter_cons] at this
  split at this
  · injection this
  · exact this
theorem srt_of {l m : List GRaw} (hm : m.Pairwise TagLe) (h : ∀ t : Int, l.filter (fun x => x.fTag = t) = m.filter (fun x => x.fTag = t)) : srt l = m :=
 sorted_ext (zl4 l) hm fun t => by rw [srt_filter, h]
theorem zn2 {α : Type} {A B : List α} {x : α} {i : Int} (h : i = A.length) : idxL (A ++ x :: B) i = some x := by
 subst h
 rw [idxL, if_pos (by omega), Int.toNat_natCast, gR (nR _), Nat.sub_self]; rfl
theorem idx_t {α : Type} {l : List α} {i : Int} {x : α} (h0 : 0 ≤ i) (h : l[i.toNat]? = some x) : idxL l i = some x := by rw [idxL, if_pos h0, h]
theorem sorted_l17 {r z : GRaw} {S P : List GRaw} (rec8 : Int → List GRaw → Option (List GRaw)) : ∀ (k : Nat) (A B : List GRaw), S = A ++ B → (∀ b ∈ B, r.fTag < b.fTag) → A.Pairwise TagLe → A.length < k → S.length < 1000000 →
 wire_Sorted.l17 (S.length : Int) (S ++ z :: P) rec8 r k (A.length : Int) = rec8 ((S.length : Int) + 1) (insR r S ++ P)
 | 0, _, _, _, _, _, h, _ => by omega
 | k + 1, A, B, hS, hB, hA, hk, hn => by
  have stop : (∀ a ∈ A, a.fTag ≤ r.fTag) → wire_Sorted.j20 (S.length : Int) (S ++ z :: P) rec8 r (A.length : Int) (wire_Sorted.l17 (S.length : Int) (S ++ z :: P) rec8 r k) false = rec8 ((S.length : Int) + 1) (insR r S ++ P) := by
   intro hle
   have hl : S.length = A.length + B.length := by rw [hS, lP]
   have e1 : IntKind.i64.wrap ((A.length : Int) + 1) = ((A.length + 1 : Nat) : Int) := by rw [za1 (by omega) (by omega)]; omega
   rw [wire_Sorted.j20, if_neg (by decide), e1, zF4 (by rw [lP, lC]; omega), bS, zF4 (by rw [lP, lC]; omega), bS]
   have e2 : Int.toNat ((S.length : Int) + 1) = S.length + 1 := by omega
   rw [Int.toNat_natCast, Int.toNat_natCast, Int.toNat_natCast, e2, show min (S.length - A.length) (S.length + 1 - (A.length + 1)) = B.length by omega]
   have hc : ∃ w : GRaw, A.length < (S ++ z :: P).length ∧ zA3 (S ++ z :: P) (A.length + 1) A.length B.length = A ++ w :: (B ++ P) := by
    cases hB' : B with
    | nil =>
     subst hB'
     rw [aN] at hS
     refine ⟨z, by rw [hS, lP, lC]; omega, ?_⟩
     rw [zA3, hS, lZ, List.take_zero, nA, Nat.add_zero, List.drop_append, List.drop_eq_nil_of_le (by omega), List.take_append, List.take_of_length_le (by omega)]
     rw [show A.length + 1 - A.length = 1 by omega]
     simp
    | cons b B' =>
     refine ⟨b, by rw [hS, hB', lP, lP, lC]; omega, ?_⟩
     rw [hS, hB', zA3]
     have t1 : ((A ++ b :: B') ++ z :: P).take (A.length + 1) = A ++ [b] := by
      rw [aA, List.take_append, List.take_of_length_le (by omega), show A.length + 1 - A.length = 1 by omega]; rfl
     have t2 : (((A ++ b :: B') ++ z :: P).drop A.length).take (b :: B').length = b :: B' := by
      rw [aA, List.drop_left' rfl, List.take_left' rfl]
     have t3 : ((A ++ b :: B') ++ z :: P).drop (A.length + 1 + (b :: B').length) = P := by
      rw [show (A ++ b :: B') ++ z :: P = ((A ++ b :: B') ++ [z]) ++ P by rw [aA (A ++ b :: B')]; rfl]
      rw [List.drop_left']
      simp only [lP, lC, lZ]; omega
     rw [t1, t2, t3]
     simp only [aA, cA, nA]
   obtain ⟨w, hlt, hc⟩ := hc
   rw [hc, zn2 rfl, bS, setI, Int.toNat_natCast, List.set_append_right _ _ (nR _), Nat.sub_self, List.set_cons_zero, hS, insR_app hle hB, aA]; rfl
  rcases List.eq_nil_or_concat A with rfl | ⟨A', a, rfl⟩
  · rw [wire_Sorted.l17, if_neg (by simp)]
    exact stop (fun a ha => by cases ha)
  · rw [List.concat_eq_append] at *
    have hlA : (A' ++ [a]).length = A'.length + 1 := by rw [lP, List.length_singleton]
    have hlS : S.length = (A' ++ [a]).length + B.length := by rw [hS, lP]
    have e1 : IntKind.i64.wrap (((A' ++ [a]).length : Int) - 1) = (A'.length : Int) := by
     rw [za1 (by omega) (by omega)]; omega
    rw [wire_Sorted.l17, if_pos (by omega), e1]
    have ei : idxL (S ++ z :: P) (A'.length : Int) = some a := by
     rw [hS, aA, aA]; exact zn2 rfl
    rw [ei, bS]
    by_cases hgt : r.fTag < a.fTag
    · rw [decide_eq_true hgt, wire_Sorted.j20, if_pos rfl, e1]
      refine sorted_l17 rec8 k A' (a :: B) (by rw [hS, aA]; rfl) ?_ (List.pairwise_append.1 hA).1 (by omega) hn
      intro b hb
      rcases mI.1 hb with rfl | hb
      · exact hgt
      · exact hB b hb
    · rw [decide_eq_false hgt]
      refine stop ?_
      intro x hx
      rcases mA.1 hx with hx | hx
      · have := (List.pairwise_append.1 hA).2.2 x hx a (List.mem_singleton.2 rfl)
        unfold TagLe at this; omega
      · rw [List.mem_singleton] at hx; subst hx; omega
theorem sorted_l8 : ∀ (q S P : List GRaw), P.length = q.length → S.Pairwise TagLe → S.length + q.length < 1000000 → wire_Sorted.l8 q (S.length : Int) (S ++ P) = some (srtA q S)
 | [], S, P, hP, _, _ => by
  have : P = [] := lI.1 (by simpa using hP)
  subst this
  rw [wire_Sorted.l8, srtA, aN]
 | r :: q, S, [], hP, _, _ => by cases hP
 | r :: q, S, z :: P, hP, hS, hn => by
  rw [lC] at hn
  rw [wire_Sorted.l8, sorted_l17 (S := S) (wire_Sorted.l8 q) rounds S [] (aN S).symm (fun b hb => by cases hb) hS (Nat.lt_of_lt_of_le (show S.length < 1000000 by omega) (by decide)) (by omega)]
  have e : (S.length : Int) + 1 = ((insR r S).length : Int) := by rw [zP4]; omega
  rw [e, sorted_l8 q (insR r S) P (by simpa using hP) (zm2 hS) (by rw [zP4]; omega), srtA]
theorem sorted_eq {l : List GRaw} (h : l.length < 1000000) : wire_Sorted l = some (srt l) := by
 rw [wire_Sorted, zF4 (by omega), bS, Int.toNat_natCast]
 exact sorted_l8 l [] _ List.length_replicate List.Pairwise.nil (by rw [lZ]; omega)
end Go.Proofs.YtaddlmlpeghonaaDoor
end
