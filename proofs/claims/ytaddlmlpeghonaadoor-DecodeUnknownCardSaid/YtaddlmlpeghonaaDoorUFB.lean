import Derived.Test.YtaddlmlpeghonaaDoorUFBa
set_option maxRecDepth 4000
set_option maxHeartbeats 1000000
set_option linter.unusedSimpArgs false
set_option linter.unusedVariables false
set_option linter.constructorNameAsVariable false
namespace Go.Proofs.YtaddlmlpeghonaaDoor
open Nat renaming reduceLT → rL, reduceLeDiff → rD, reduceEqDiff → rE, reduceAdd → rA, reduceMul → rM, reduceSub → rS
open AM
def value_Node_Get.l4 (a1 : Int) : List GValueEntry → Int → Option (List GValueValue)
 | [], x2 => some ([] : List GValueValue)
 | y4 :: q4, x2 => (if y4.ftag = a1 then (slices_Clone_Value y4.fl).bind fun r12 => some r12 else ((value_Node_Get.l4 a1 q4) (x2 + 1)))
def value_Node_Get (a0 : GValueNode) (a1 : Int) : Option (List GValueValue) :=
 (value_Node_Get.l4 a1 a0.fentries 0)
theorem value_Node_Get.ok (a0 : GValueNode) (a1 : Int) (r : List GValueValue) (h : value_Node_Get a0 a1 = some r) : ACalls Tryd.prog 106 [.dp (encGValueNode a0) 0, .int .i64 a1] [] (fun r' _ => r' = .ds true (List.flatMap encGValueValue r) (List.length r) false) := by
 refine zl (rs := [.tmp 4]) tok Tryd.func106 rfl Tryd.ntmps106 rfl Tryd.call106 (by simp) ?_
 refine zm [(0, .dp (encGValueNode a0) 0), (1, .int .i64 a1)] ⟨rfl, rfl, trivial⟩ ?_
 unfold value_Node_Get at h
 refine rg tok [0, 1] fun K hK => ?_
 simp only [go_sem, rL, rE, reduceCtorEq]
 refine hK _ _ ?_
 refine ze fun Z1 hZ1 => ?_
 refine rg tok [1, 10, 11, 12] fun K hK => ?_
 simp only [go_sem, rL, rE, rA, reduceCtorEq, encGValueNode, evLoad_dp]
 refine hK _ _ ?_
 refine zj ?_
 refine awp_deep 10 fun hb4 => ?_
 replace hb4 : List.length a0.fentries ≤ 9223372036854775807 := hb4.1
 refine zt (fun m L τ => ∃ (p4 q4 : List GValueEntry) (x2 : Int), m = List.length q4 ∧ L = ([(1, .int .i64 a1), (10, .ds true (List.flatMap encGValueEntry a0.fentries) (List.length a0.fentries) false), (11, .int .i64 (List.length a0.fentries : Int)), (12, .int .i64 x2)] : List (Nat × AV)) ∧ τ = ([] : Store) ∧ a0.fentries = p4 ++ q4 ∧ x2 = (List.length p4 : Int) ∧ value_Node_Get.l4 a1 q4 x2 = some r) _ ⟨[], a0.fentries, 0, rfl, rfl, rfl, rfl, rfl, h⟩ .s ?_
 rintro m L τ ⟨p4, q4, x2, rfl, rfl, rfl, hE4, hi4, h⟩
 rcases q4 with _ | ⟨y4, q4⟩
 · have hz4 := zip_nil hE4 hi4
   simp only [value_Node_Get.l4] at h
   refine rg tok [1, 10, 11, 12, 13] fun K hK => ?_
   simp only [go_sem, rL, rE, hz4]
   refine hK _ _ ?_
   refine ze fun Z5 hZ5 => ?_
   refine zp rfl ?_
   refine zx ?_
   refine hZ1 _ _ ?_
   refine rg tok [4] fun K hK => ?_
   simp only [go_sem, rL, rE]
   refine hK _ _ ?_
   refine zi ?_
   obtain rfl := Option.some.inj h
   exact retA
 · obtain ⟨hz4, hw4, hx4, hE'4, hi'4⟩ := zip_cons hE4 hi4 hb4
   simp only [value_Node_Get.l4] at h
   refine rg tok [1, 10, 11, 12, 13] fun K hK => ?_
   simp only [go_sem, rL, rE, hz4]
   refine hK _ _ ?_
   refine ze fun Z6 hZ6 => ?_
   refine zr rfl ?_
   refine zh ?_
   refine hZ6 _ _ ?_
   refine ze fun Z7 hZ7 => ?_
   refine zj ?_
   have f8 := E172.idxS hx4
   have f9 := E172.loadS rfl rfl hx4
   refine rg tok [1, 6, 10, 11, 12] fun K hK => ?_
   simp only [go_sem, rL, rD, rE, rA, cellsGValueEntry, encGValueEntry_eq, f8, f9]
   refine hK _ _ ?_
   refine rg tok [1, 6, 10, 11, 12, 19] fun K hK => ?_
   simp only [go_sem, rL, rE, rA]
   refine hK _ _ ?_
   refine awp_if rfl (fun hc10 => ?_) (fun hc10 => ?_)
   · skip
     rw [if_pos hc10] at h
     have t11 := eq_true hc10
     refine rc [4] fun K hK => ?_
     obtain ⟨r12, hr12, h⟩ := bind_some h
     refine za tok 2 ?_
     simp only [go_sem, rL, rE, rA, t11]
     refine zf rfl rfl rfl (@id (ACalls Tryd.prog 125 [.ds true (List.flatMap encGValueValue y4.fl) (List.length y4.fl) false] [.cells 0 [.int .i64 y4.ftag, .ds true (List.flatMap encGValueValue y4.fl) (List.length y4.fl) false]] (fun r' σ' => r' = .os true 1 1 0 0 (List.length r12) false ∧ σ' = [.cells 0 [.int .i64 y4.ftag, .ds true (List.flatMap encGValueValue y4.fl) (List.length y4.fl) false], .cells 0 (List.flatMap encGValueValue r12)])) ((slices_Clone_Value.own y4.fl r12 hr12).ownAt0 (by simp only [push_cast]) (by simp only [push_cast]) _)) ?_
     rintro _ _ ⟨rfl, rfl⟩
     refine za tok 1 ?_
     simp only [go_sem, rL, rE]
     refine zb ?_
     simp only [zd, upd, rE, reduceIte, zk, fs_nil]
     refine hK _ _ ?_
     refine zi ?_
     obtain rfl := Option.some.inj h
     exact retA
   · skip
     rw [if_neg hc10] at h
     have t13 := eq_false hc10
     refine zh ?_
     refine hZ7 _ _ ?_
     refine rgE tok [1, 10, 11, 12] fun K hK => ?_
     simp only [go_sem, rL, rE, hw4, t13]
     refine hK _ _ ?_
     exact ⟨_, _, _, Nat.lt_succ_self q4.length, ⟨p4 ++ [y4], q4, x2 + 1, rfl, rfl, rfl, hE'4, hi'4, h⟩, (.t [] false)⟩
theorem value_Node_Get.ev (a0 : GValueNode) (a1 : Int) (r : List GValueValue) (h : value_Node_Get a0 a1 = some r) (σ : Store) : ACalls Tryd.prog 106 [.dp (encGValueNode a0) 0, .int .i64 a1] σ (fun r' σ' => r' = .ds true (List.flatMap encGValueValue r) (List.length r) false ∧ σ' = σ) :=
 (value_Node_Get.ok a0 a1 r h).c σ
def value_Value_AsNum (a0 : GValueValue) : Int × Bool :=
 (match a0 with | .nil => (0, false) | .num n2 => (n2, true) | .str s2 => (0, false) | .node e2 r2 => (0, false))
theorem value_Value_AsNum.ok (a0 : GValueValue) (r : Int × Bool) (h : value_Value_AsNum a0 = r) : ACalls Tryd.prog 130 [.agg (encGValueValue a0)] [] (fun r' _ => r' = .tup [.int .i64 r.1, .bool r.2]) := by
 refine zl (rs := [.tmp 2, .tmp 3]) tok Tryd.func130 rfl Tryd.ntmps130 rfl Tryd.call130 (by simp) ?_
 refine zm [(0, .agg (encGValueValue a0))] ⟨rfl, trivial⟩ ?_
 unfold value_Value_AsNum at h
 have f1 := oneIfcV a0
 unfold AV.one at f1
 refine rg tok [1] fun K hK => ?_
 simp only [go_sem, rL, rE, reduceCtorEq, encGValueValue, f1]
 refine hK _ _ ?_
 rcases a0 with _ | n2 | s2 | ⟨e2, r2⟩
 · skip
   dsimp only at h
   try simp only [ifcV_nil]
   refine rg tok [4, 5] fun K hK => ?_
   simp only [go_sem, rL, rE, rA, evAssert, assertIn, TypeDesc.isIface]
   refine hK _ _ ?_
   refine rg tok [2, 3] fun K hK => ?_
   simp only [go_sem, rL, rE]
   refine hK _ _ ?_
   refine zi ?_
   obtain rfl := h
   exact retA
 · skip
   dsimp only at h
   try simp only [ifcV_num]
   refine rg tok [4, 5] fun K hK => ?_
   simp only [go_sem, rL, rE, rA, evAssert, assertIn, TypeDesc.isIface]
   refine hK _ _ ?_
   refine rg tok [2, 3] fun K hK => ?_
   simp only [go_sem, rL, rE]
   refine hK _ _ ?_
   refine zi ?_
   obtain rfl := h
   exact retA
 · skip
   dsimp only at h
   try simp only [ifcV_str]
   refine rg tok [4, 5] fun K hK => ?_
   simp only [go_sem, rL, rE, rA, evAssert, assertIn, TypeDesc.isIface]
   refine hK _ _ ?_
   refine rg tok [2, 3] fun K hK => ?_
   simp only [go_sem, rL, rE]
   refine hK _ _ ?_
   refine zi ?_
   obtain rfl := h
   exact retA
 · skip
   dsimp only at h
   try simp only [ifcV_node]
   refine rg tok [4, 5] fun K hK => ?_
   simp only [go_sem, rL, rE, rA, evAssert, assertIn, TypeDesc.isIface]
   refine hK _ _ ?_
   refine rg tok [2, 3] fun K hK => ?_
   simp only [go_sem, rL, rE]
   refine hK _ _ ?_
   refine zi ?_
   obtain rfl := h
   exact retA
theorem value_Value_AsNum.ev (a0 : GValueValue) (r : Int × Bool) (h : value_Value_AsNum a0 = r) (σ : Store) : ACalls Tryd.prog 130 [.agg (encGValueValue a0)] σ (fun r' σ' => r' = .tup [.int .i64 r.1, .bool r.2] ∧ σ' = σ) :=
 (value_Value_AsNum.ok a0 r h).c σ
def value_Value_AsStr (a0 : GValueValue) : List UInt8 × Bool :=
 (match a0 with | .nil => ([], false) | .num n2 => ([], false) | .str s2 => (s2, true) | .node e2 r2 => ([], false))
theorem value_Value_AsStr.ok (a0 : GValueValue) (r : List UInt8 × Bool) (h : value_Value_AsStr a0 = r) : ACalls Tryd.prog 131 [.agg (encGValueValue a0)] [] (fun r' _ => r' = .tup [.str r.1, .bool r.2]) := by
 refine zl (rs := [.tmp 2, .tmp 3]) tok Tryd.func131 rfl Tryd.ntmps131 rfl Tryd.call131 (by simp) ?_
 refine zm [(0, .agg (encGValueValue a0))] ⟨rfl, trivial⟩ ?_
 unfold value_Value_AsStr at h
 have f1 := oneIfcV a0
 unfold AV.one at f1
 refine rg tok [1] fun K hK => ?_
 simp only [go_sem, rL, rE, reduceCtorEq, encGValueValue, f1]
 refine hK _ _ ?_
 rcases a0 with _ | n2 | s2 | ⟨e2, r2⟩
 · skip
   dsimp only at h
   try simp only [ifcV_nil]
   refine rg tok [4, 5] fun K hK => ?_
   simp only [go_sem, rL, rE, rA, evAssert, assertIn, TypeDesc.isIface]
   refine hK _ _ ?_
   refine rg tok [2, 3] fun K hK => ?_
   simp only [go_sem, rL, rE]
   refine hK _ _ ?_
   refine zi ?_
   obtain rfl := h
   exact retA
 · skip
   dsimp only at h
   try simp only [ifcV_num]
   refine rg tok [4, 5] fun K hK => ?_
   simp only [go_sem, rL, rE, rA, evAssert, assertIn, TypeDesc.isIface]
   refine hK _ _ ?_
   refine rg tok [2, 3] fun K hK => ?_
   simp only [go_sem, rL, rE]
   refine hK _ _ ?_
   refine zi ?_
   obtain rfl := h
   exact retA
 · skip
   dsimp only at h
   try simp only [ifcV_str]
   refine rg tok [4, 5] fun K hK => ?_
   simp only [go_sem, rL, rE, rA, evAssert, assertIn, TypeDesc.isIface]
   refine hK _ _ ?_
   refine rg tok [2, 3] fun K hK => ?_
   simp only [go_sem, rL, rE]
   refine hK _ _ ?_
   refine zi ?_
   obtain rfl := h
   exact retA
 · skip
   dsimp only at h
   try simp only [ifcV_node]
   refine rg tok [4, 5] fun K hK => ?_
   simp only [go_sem, rL, rE, rA, evAssert, assertIn, TypeDesc.isIface]
   refine hK _ _ ?_
   refine rg tok [2, 3] fun K hK => ?_
   simp only [go_sem, rL, rE]
   refine hK _ _ ?_
   refine zi ?_
   obtain rfl := h
   exact retA
theorem value_Value_AsStr.ev (a0 : GValueValue) (r : List UInt8 × Bool) (h : value_Value_AsStr a0 = r) (σ : Store) : ACalls Tryd.prog 131 [.agg (encGValueValue a0)] σ (fun r' σ' => r' = .tup [.str r.1, .bool r.2] ∧ σ' = σ) :=
 (value_Value_AsStr.ok a0 r h).c σ
def encode_kept (a0 : GValueValue) : Option GValueValue :=
 bnd (value_Value_AsNum a0) fun r3 => (if r3.2 = true then some (GValueValue.num r3.1) else bnd (value_Value_AsStr a0) fun r6 => (if r6.2 = true then some (GValueValue.str r6.1) else (value_Value_MustNode a0).bind fun r8 => some (GValueValue.node r8.fentries r8.frest)))
theorem encode_kept.ok (a0 : GValueValue) (r : GValueValue) (h : encode_kept a0 = some r) : ACalls Tryd.prog 126 [.agg (encGValueValue a0)] [] (fun r' _ => r' = anyV r) := by
 refine zl (rs := [.tmp 2]) tok Tryd.func126 rfl Tryd.ntmps126 rfl Tryd.call126 (by simp) ?_
 refine zm [(0, .agg (encGValueValue a0))] ⟨rfl, trivial⟩ ?_
 unfold encode_kept at h
 have f1 := oneIfcV a0
 unfold AV.one at f1
 refine rg tok [1] fun K hK => ?_
 simp only [go_sem, rL, rE, reduceCtorEq, encGValueValue, f1]
 refine hK _ _ ?_
 refine ze fun Z2 hZ2 => ?_
 refine rc [1, 3, 4] fun K hK => ?_
 obtain ⟨r3, hr3, h⟩ := bnd_elim h
 refine za tok 1 ?_
 simp only [go_sem, rL, rD]
 refine zf rfl rfl rfl (value_Value_AsNum.ev a0 r3 hr3 _) ?_
 rintro _ _ ⟨rfl, rfl⟩
 refine za tok 5 ?_
 simp only [go_sem, rL, rE, rA]
 refine zb ?_
 simp only [zd, upd, rE, reduceIte, zk, fs_nil]
 refine hK _ _ ?_
 refine rg tok [1, 3, 12] fun K hK => ?_
 simp only [go_sem, rL, rE]
 refine hK _ _ ?_
 refine zw (b := r3.2) rfl (fun hc4 => ?_) (fun hc4 => ?_)
 · skip
   rw [if_pos hc4] at h
   refine rg tok [2] fun K hK => ?_
   simp only [go_sem, rL, rE]
   refine hK _ _ ?_
   refine zi ?_
   obtain rfl := Option.some.inj h
   exact retA
 · skip
   rw [if_F hc4] at h
   refine zh ?_
   refine hZ2 _ _ ?_
   refine ze fun Z5 hZ5 => ?_
   refine rc [1, 5, 6] fun K hK => ?_
   obtain ⟨r6, hr6, h⟩ := bnd_elim h
   refine za tok 1 ?_
   simp only [go_sem, rL, rD, rE]
   refine zf rfl rfl rfl (value_Value_AsStr.ev a0 r6 hr6 _) ?_
   rintro _ _ ⟨rfl, rfl⟩
   refine za tok 5 ?_
   simp only [go_sem, rL, rE, rA]
   refine zb ?_
   simp only [zd, upd, rE, reduceIte, zk, fs_nil]
   refine hK _ _ ?_
   refine rg tok [1, 5, 20] fun K hK => ?_
   simp only [go_sem, rL, rE]
   refine hK _ _ ?_
   refine zw (b := r6.2) rfl (fun hc7 => ?_) (fun hc7 => ?_)
   · skip
     rw [if_pos hc7] at h
     refine rg tok [2] fun K hK => ?_
     simp only [go_sem, rL, rE]
     refine hK _ _ ?_
     refine zi ?_
     obtain rfl := Option.some.inj h
     exact retA
   · skip
     rw [if_F hc7] at h
     refine zh ?_
     refine hZ5 _ _ ?_
     refine rc [2] fun K hK => ?_
     obtain ⟨r8, hr8, h⟩ := bind_some h
     refine za tok 1 ?_
     simp only [go_sem, rL, rD, rE]
     refine zf rfl rfl rfl (value_Value_MustNode.ev a0 r8 hr8 _) ?_
     rintro _ _ ⟨rfl, rfl⟩
     refine za tok 2 ?_
     simp only [go_sem, rL, rE]
     refine zb ?_
     simp only [zd, upd, rE, reduceIte, zk, fs_nil]
     refine hK _ _ ?_
     refine zi ?_
     obtain rfl := Option.some.inj h
     exact retA
theorem encode_kept.ev (a0 : GValueValue) (r : GValueValue) (h : encode_kept a0 = some r) (σ : Store) : ACalls Tryd.prog 126 [.agg (encGValueValue a0)] σ (fun r' σ' => r' = anyV r ∧ σ' = σ) :=
 (encode_kept.ok a0 r h).c σ
def vint_Put.l9 : Nat → List UInt8 → Int → Option (List UInt8)
 | 0, _, _ => none
 | k9 + 1, l3, x5 => (if 128 ≤ x5 then (room (List.length l3 + 1) 1).bind fun _u14 => ((vint_Put.l9 k9) (l3 ++ [UInt8.ofNat (Int.toNat (IntKind.u8.wrap ((BitVec.toNat (BitVec.ofInt 8 (IntKind.u8.wrap x5) ||| BitVec.ofInt 8 128) : Nat) : Int)))]) (Int.fdiv x5 (2 ^ (min (Int.toNat 7) 64)))) else (room (List.length l3 + 1) 1).bind fun _u18 => some (l3 ++ [UInt8.ofNat (Int.toNat (IntKind.u8.wrap x5))]))
def vint_Put (a0 : List UInt8) (a1 : Int) : Option (List UInt8) :=
 (if 128 ≤ a1 then (room (List.length a0 + 1) 1).bind fun _u24 => (vint_Put.l9 rounds (a0 ++ [UInt8.ofNat (Int.toNat (IntKind.u8.wrap ((BitVec.toNat (BitVec.ofInt 8 (IntKind.u8.wrap a1) ||| BitVec.ofInt 8 128) : Nat) : Int)))]) (Int.fdiv a1 (2 ^ (min (Int.toNat 7) 64)))) else (room (List.length a0 + 1) 1).bind fun _u28 => some (a0 ++ [UInt8.ofNat (Int.toNat (IntKind.u8.wrap a1))]))
theorem vint_Put.own (a0 : List UInt8) (a1 : Int) (r : List UInt8) (h : vint_Put a0 a1 = some r) : ACalls Tryd.prog 38 [.ds true (List.flatMap encB a0) (List.length a0) false, .int .u64 a1] [] (fun r' σ' => r' = .os true 1 0 0 0 (List.length r) false ∧ σ' = [.cells 0 (List.flatMap encB r)]) := by
 refine ACalls.own0 (by simp only [push_cast]) ?_
 refine acalls_own (rs := [.tmp 4]) tok Tryd.func38 rfl Tryd.ntmps38 rfl Tryd.call38 (by simp) ?_
 refine zm [(0, .ds true (List.flatMap encB a0) (List.length a0) false), (1, .int .u64 a1)] ⟨rfl, rfl, trivial⟩ ?_
 unfold vint_Put at h
 refine rg tok [0, 1] fun K hK => ?_
 simp only [go_sem, rL, rE, reduceCtorEq]
 refine hK _ _ ?_
 have f1 := E35.sl_tight a0 .i64 .i64
 refine rg tok [0, 1] fun K hK => ?_
 simp only [go_sem, rL, rE, reduceCtorEq, f1]
 refine hK _ _ ?_
 refine ze fun Z2 hZ2 => ?_
 refine zj ?_
 refine awp_loopS1 (fun m L τ => ∃ (k9 : Nat) (l3 : List UInt8) (x5 : Int) (v4 : Nat), m = 0 + k9 ∧ L = ([(0, .os true 1 0 v4 0 (List.length l3) false), (1, .int .u64 x5)] : List (Nat × AV)) ∧ τ = ([.cells v4 (List.flatMap encB l3)] : Store) ∧ vint_Put.l9 k9 l3 x5 = some r) (rounds + 1) ?_ ?_
 · skip
   refine ze fun Z20 hZ20 => ?_
   refine rg tok [0, 1, 12] fun K hK => ?_
   simp only [go_sem, rL, rE, reduceCtorEq]
   refine hK _ _ ?_
   refine awp_if rfl (fun hc21 => ?_) (fun hc21 => ?_)
   · skip
     rw [if_pos hc21] at h
     have t22 := eq_true hc21
     refine zh ?_
     refine hZ20 _ _ ?_
     refine zj ?_
     have f23 := conv_int (T := tab) (src := 85) (dst := 5) rfl rfl rfl
     obtain ⟨_u24, hu24, h⟩ := bind_some h
     have gu24 := room_some hu24
     have f25 := app_tight E35.len a0 (m := 1) (by decide)
     refine rg tok [0, 1] fun K hK => ?_
     simp only [go_sem, rL, rD, rE, rM, reduceCtorEq, evBuildSlice, zeroRun, List.range_succ, List.range_zero, true_and, Nat.reduceMod, evAppend, lenOfAV, t22, f23, gu24, f25, srcCells_o, List.all_nil, List.all_cons, AV.one, Bool.and_self, List.nil_append, List.length_cons, List.length_nil, Nat.zero_add, List.cons_append]
     refine hK _ _ ?_
     refine awp_tellS (L := [(0, .os true 1 1 0 0 (List.length (a0 ++ [UInt8.ofNat (Int.toNat (IntKind.u8.wrap ((BitVec.toNat (BitVec.ofInt 8 (IntKind.u8.wrap a1) ||| BitVec.ofInt 8 128) : Nat) : Int)))])) false), (1, .int .u64 a1)]) (τ := [.cells 0 [.int .u8 (IntKind.u8.wrap ((BitVec.toNat (BitVec.ofInt 8 (IntKind.u8.wrap a1) ||| BitVec.ofInt 8 128) : Nat) : Int))], .cells 0 (List.flatMap encB (a0 ++ [UInt8.ofNat (Int.toNat (IntKind.u8.wrap ((BitVec.toNat (BitVec.ofInt 8 (IntKind.u8.wrap a1) ||| BitVec.ofInt 8 128) : Nat) : Int)))]))]) (.same (by first | exact ⟨rfl, rfl, trivial⟩ | rfl | (simp only [go_sem, reduceCtorEq, Fits, List.length_append, List.length_cons, List.length_nil, Nat.zero_add, and_self] <;> rfl)) (by first | exact ⟨rfl, rfl, trivial⟩ | rfl | (simp only [go_sem, encB, List.flatMap_append, List.flatMap_cons, List.flatMap_nil, List.append_nil, u8_wrap] <;> rfl))) ?_
     refine rgE tok [0, 1] fun K hK => ?_
     simp only [go_sem, rL, rE, reduceCtorEq, evShift, Int.reduceLT]
     refine hK _ _ ?_
     exact ⟨_, _, _, (Nat.lt_succ_of_le (Nat.le_of_eq (Nat.zero_add rounds))), ⟨rounds, a0 ++ [UInt8.ofNat (Int.toNat (IntKind.u8.wrap ((BitVec.toNat (BitVec.ofInt 8 (IntKind.u8.wrap a1) ||| BitVec.ofInt 8 128) : Nat) : Int)))], Int.fdiv a1 (2 ^ (min (Int.toNat 7) 64)), 0, rfl, rfl, rfl, h⟩, (.t [1] false)⟩
   · skip
     rw [if_neg hc21] at h
     have t26 := eq_false hc21
     refine zx ?_
     refine hZ2 _ _ ?_
     have f27 := conv_int (T := tab) (src := 85) (dst := 5) rfl rfl rfl
     obtain ⟨_u28, hu28, h⟩ := bind_some h
     have gu28 := room_some hu28
     have f29 := app_tight E35.len a0 (m := 1) (by decide)
     refine rg tok [4] fun K hK => ?_
     simp only [go_sem, rL, rD, rE, rM, reduceCtorEq, evBuildSlice, zeroRun, List.range_succ, List.range_zero, true_and, Nat.reduceMod, evAppend, lenOfAV, t26, f27, gu28, f29, srcCells_o, List.all_nil, List.all_cons, AV.one, Bool.and_self, List.nil_append, List.length_cons, List.length_nil, Nat.zero_add, List.cons_append]
     refine hK _ _ ?_
     refine awp_tellS (L := [(4, .os true 1 1 0 0 (List.length (a0 ++ [UInt8.ofNat (Int.toNat (IntKind.u8.wrap a1))])) false)]) (τ := [.cells 0 [.int .u8 (IntKind.u8.wrap a1)], .cells 0 (List.flatMap encB (a0 ++ [UInt8.ofNat (Int.toNat (IntKind.u8.wrap a1))]))]) (.same (by first | exact ⟨rfl, trivial⟩ | rfl | (simp only [go_sem, Fits, List.length_append, List.length_cons, List.length_nil, Nat.zero_add, and_self] <;> rfl)) (by first | exact ⟨rfl, trivial⟩ | rfl | (simp only [go_sem, encB, List.flatMap_append, List.flatMap_cons, List.flatMap_nil, List.append_nil, u8_wrap] <;> rfl))) ?_
     refine zi ?_
     obtain rfl := Option.some.inj h
     simp only [retQ, resAll, resOne, resAV, exists_eq_left', go_sem, rA]
     refine ⟨1, 0, by simp, ?_, ?_⟩
     · first | rfl | (simp only [go_sem, rL, rD, rE, rA, rM, rS, reduceIte, reduceCtorEq, push_cast, if_true, List.drop_zero, Nat.zero_add, List.map_cons, List.map_nil, List.map_append, Bool.or_true, Bool.or_false, Bool.and_true, Bool.and_false, Bool.not_true, Bool.not_false, zv] <;> rfl)
     · first | rfl | (simp only [go_sem, push_cast, List.map_nil, zv] <;> rfl)
 · skip
   clear h
   rintro m L τ ⟨k9, l3, x5, v4, rfl, rfl, rfl, h⟩
   rcases k9 with _ | k9
   · cases h
   · simp only [vint_Put.l9] at h
     refine ze fun Z10 hZ10 => ?_
     refine rg tok [0, 1, 12] fun K hK => ?_
     simp only [go_sem, rL, rE, reduceCtorEq]
     refine hK _ _ ?_
     refine awp_if rfl (fun hc11 => ?_) (fun hc11 => ?_)
     · skip
       rw [if_pos hc11] at h
       have t12 := eq_true hc11
       refine zh ?_
       refine hZ10 _ _ ?_
       refine zj ?_
       have f13 := conv_int (T := tab) (src := 85) (dst := 5) rfl rfl rfl
       obtain ⟨_u14, hu14, h⟩ := bind_some h
       have gu14 := room_some hu14
       have f15 := (zo E35.len l3)
       refine rg tok [0, 1] fun K hK => ?_
       simp only [go_sem, rL, rD, rE, rM, reduceCtorEq, evBuildSlice, zeroRun, List.range_succ, List.range_zero, true_and, Nat.reduceMod, evAppend, evAppendTo, lenOfAV, t12, f13, gu14, f15, srcCells_o, List.all_nil, List.all_cons, AV.one, Bool.and_self, List.nil_append, List.length_cons, List.length_nil, Nat.zero_add, List.cons_append]
       refine hK _ _ ?_
       refine awp_tellS (L := [(0, .os true 1 0 (v4 + 1) 0 (List.length (l3 ++ [UInt8.ofNat (Int.toNat (IntKind.u8.wrap ((BitVec.toNat (BitVec.ofInt 8 (IntKind.u8.wrap x5) ||| BitVec.ofInt 8 128) : Nat) : Int)))])) false), (1, .int .u64 x5)]) (τ := [.cells (v4 + 1) (List.flatMap encB (l3 ++ [UInt8.ofNat (Int.toNat (IntKind.u8.wrap ((BitVec.toNat (BitVec.ofInt 8 (IntKind.u8.wrap x5) ||| BitVec.ofInt 8 128) : Nat) : Int)))])), .cells 0 [.int .u8 (IntKind.u8.wrap ((BitVec.toNat (BitVec.ofInt 8 (IntKind.u8.wrap x5) ||| BitVec.ofInt 8 128) : Nat) : Int))]]) (.same (by first | exact ⟨rfl, rfl, trivial⟩ | rfl | (simp only [go_sem, reduceCtorEq, Fits, List.length_append, List.length_cons, List.length_nil, Nat.zero_add, and_self] <;> rfl)) (by first | exact ⟨rfl, rfl, trivial⟩ | rfl | (simp only [go_sem, encB, List.flatMap_append, List.flatMap_cons, List.flatMap_nil, List.append_nil, u8_wrap] <;> rfl))) ?_
       refine rgE tok [0, 1] fun K hK => ?_
       simp only [go_sem, rL, rE, reduceCtorEq, evShift, Int.reduceLT]
       refine hK _ _ ?_
       exact ⟨_, _, _, Nat.lt_succ_self (0 + k9), ⟨k9, l3 ++ [UInt8.ofNat (Int.toNat (IntKind.u8.wrap ((BitVec.toNat (BitVec.ofInt 8 (IntKind.u8.wrap x5) ||| BitVec.ofInt 8 128) : Nat) : Int)))], Int.fdiv x5 (2 ^ (min (Int.toNat 7) 64)), v4 + 1, rfl, rfl, rfl, h⟩, (.t [0] false)⟩
     · skip
       rw [if_neg hc11] at h
       have t16 := eq_false hc11
       refine zx ?_
       refine hZ2 _ _ ?_
       have f17 := conv_int (T := tab) (src := 85) (dst := 5) rfl rfl rfl
       obtain ⟨_u18, hu18, h⟩ := bind_some h
       have gu18 := room_some hu18
       have f19 := (zo E35.len l3)
       refine rg tok [4] fun K hK => ?_
       simp only [go_sem, rL, rD, rE, rM, reduceCtorEq, evBuildSlice, zeroRun, List.range_succ, List.range_zero, true_and, Nat.reduceMod, evAppend, evAppendTo, lenOfAV, t16, f17, gu18, f19, srcCells_o, List.all_nil, List.all_cons, AV.one, Bool.and_self, List.nil_append, List.length_cons, List.length_nil, Nat.zero_add, List.cons_append]
       refine hK _ _ ?_
       refine awp_tellS (L := [(4, .os true 1 0 (v4 + 1) 0 (List.length (l3 ++ [UInt8.ofNat (Int.toNat (IntKind.u8.wrap x5))])) false)]) (τ := [.cells (v4 + 1) (List.flatMap encB (l3 ++ [UInt8.ofNat (Int.toNat (IntKind.u8.wrap x5))])), .cells 0 [.int .u8 (IntKind.u8.wrap x5)]]) (.same (by first | exact ⟨rfl, trivial⟩ | rfl | (simp only [go_sem, Fits, List.length_append, List.length_cons, List.length_nil, Nat.zero_add, and_self] <;> rfl)) (by first | exact ⟨rfl, trivial⟩ | rfl | (simp only [go_sem, encB, List.flatMap_append, List.flatMap_cons, List.flatMap_nil, List.append_nil, u8_wrap] <;> rfl))) ?_
       refine zi ?_
       obtain rfl := Option.some.inj h
       simp only [retQ, resAll, resOne, resAV, exists_eq_left', go_sem, rA]
       refine ⟨0, v4 + 1, by simp, ?_, ?_⟩
       · first | rfl | (simp only [go_sem, rL, rD, rE, rA, rM, rS, reduceIte, reduceCtorEq, push_cast, if_true, List.drop_zero, Nat.zero_add, List.map_cons, List.map_nil, List.map_append, Bool.or_true, Bool.or_false, Bool.and_true, Bool.and_false, Bool.not_true, Bool.not_false, zv] <;> rfl)
       · first | rfl | (simp only [go_sem, push_cast, List.map_nil, zv] <;> rfl)
theorem vint_Put.ok (a0 : List UInt8) (a1 : Int) (r : List UInt8) (h : vint_Put a0 a1 = some r) : ACalls Tryd.prog 38 [.ds true (List.flatMap encB a0) (List.length a0) false, .int .u64 a1] [] (fun r' _ => r' = .ds true (List.flatMap encB r) (List.length r) false) :=
 (vint_Put.own a0 a1 r h).ownData (zo E35.len r) (by simp only [push_cast])
theorem vint_Put.ev (a0 : List UInt8) (a1 : Int) (r : List UInt8) (h : vint_Put a0 a1 = some r) (σ : Store) : ACalls Tryd.prog 38 [.ds true (List.flatMap encB a0) (List.length a0) false, .int .u64 a1] σ (fun r' σ' => r' = .ds true (List.flatMap encB r) (List.length r) false ∧ σ' = σ) :=
 (vint_Put.ok a0 a1 r h).c σ
def vint_Zig (a0 : Int) : Int :=
 IntKind.u64.wrap ((BitVec.toNat (BitVec.ofInt 64 (IntKind.u64.wrap ((IntKind.u64.wrap a0) * 2 ^ (min (Int.toNat 1) 64))) ^^^ BitVec.ofInt 64 (IntKind.u64.wrap (Int.fdiv a0 (2 ^ (min (Int.toNat 63) 64))))) : Nat) : Int)
theorem vint_Zig.ok (a0 : Int) (r : Int) (h : vint_Zig a0 = r) : ACalls Tryd.prog 39 [.int .i64 a0] [] (fun r' _ => r' = .int .u64 r) := by
 refine zl (rs := [.tmp 2]) tok Tryd.func39 rfl Tryd.ntmps39 rfl Tryd.call39 (by simp) ?_
 refine zm [(0, .int .i64 a0)] ⟨rfl, trivial⟩ ?_
 unfold vint_Zig at h
 refine rg tok [0] fun K hK => ?_
 simp only [go_sem, rL, reduceCtorEq]
 refine hK _ _ ?_
 have f1 := conv_int (T := tab) (src := 3) (dst := 85) rfl rfl rfl
 have f2 := conv_int (T := tab) (src := 3) (dst := 85) rfl rfl rfl
 refine rg tok [2] fun K hK => ?_
 simp only [go_sem, rL, rE, reduceCtorEq, f1, evShift, Int.reduceLT]
 refine hK _ _ ?_
 refine zi ?_
 obtain rfl := h
 exact retA
theorem vint_Zig.ev (a0 : Int) (r : Int) (h : vint_Zig a0 = r) (σ : Store) : ACalls Tryd.prog 39 [.int .i64 a0] σ (fun r' σ' => r' = .int .u64 r ∧ σ' = σ) :=
 (vint_Zig.ok a0 r h).c σ
def wire_Put (a0 : List UInt8) (a1 : GRaw) : Option (List UInt8 × Bool) :=
 bnd (wire_Check a1) fun r2 => (if (!r2) = true then some (a0, false) else (vint_Put a0 (IntKind.u64.wrap (IntKind.i64.wrap ((IntKind.i64.wrap (2 * a1.fTag)) + a1.fWire)))).bind fun r5 => (if a1.fWire = 0 then bnd (vint_Zig a1.fN) fun r9 => (vint_Put r5 r9).bind fun r10 => some (r10, true) else (vint_Put r5 (IntKind.u64.wrap (List.length a1.fB : Int))).bind fun r13 => (room (List.length r13 + List.length a1.fB) 1).bind fun _u14 => some (r13 ++ a1.fB, true)))
theorem wire_Put.ok (a0 : List UInt8) (a1 : GRaw) (r : List UInt8 × Bool) (h : wire_Put a0 a1 = some r) : ACalls Tryd.prog 19 [.ds true (List.flatMap encB a0) (List.length a0) false, .agg (encGRaw a1)] [] (fun r' _ => r' = .tup [.ds true (List.flatMap encB r.1) (List.length r.1) false, .bool r.2]) := by
 refine zl (rs := [.tmp 4, .tmp 5]) tok Tryd.func19 rfl Tryd.ntmps19 rfl Tryd.call19 (by simp) ?_
 refine zm [(0, .ds true (List.flatMap encB a0) (List.length a0) false), (1, .agg (encGRaw a1))] ⟨rfl, rfl, trivial⟩ ?_
 unfold wire_Put at h
 refine rg tok [0, 3] fun K hK => ?_
 simp only [go_sem, rL, rE, rA, reduceCtorEq, encGRaw]
 refine hK _ _ ?_
 refine ze fun Z1 hZ1 => ?_
 refine rc [0, 3, 9] fun K hK => ?_
 obtain ⟨r2, hr2, h⟩ := bnd_elim h
 refine za tok 1 ?_
 simp only [go_sem, rL, rD, rA, reduceCtorEq]
 refine zf rfl rfl rfl (wire_Check.ev a1 r2 hr2 _) ?_
 rintro _ _ ⟨rfl, rfl⟩
 refine za tok 1 ?_
 simp only [go_sem, rL, rE, reduceCtorEq]
 refine zb ?_
 simp only [zd, upd, rE, reduceIte, zk, fs_nil]
 refine hK _ _ ?_
 refine zw (b := (!r2)) rfl (fun hc3 => ?_) (fun hc3 => ?_)
 · skip
   rw [if_pos hc3] at h
   refine rg tok [4, 5] fun K hK => ?_
   simp only [go_sem, rL, rE, reduceCtorEq]
   refine hK _ _ ?_
   refine zi ?_
   obtain rfl := Option.some.inj h
   exact retA
 · skip
   rw [if_F hc3] at h
   refine zh ?_
   refine hZ1 _ _ ?_
   refine rc [3, 6] fun K hK => ?_
   have f4 := conv_int (T := tab) (src := 3) (dst := 85) rfl rfl rfl
   obtain ⟨r5, hr5, h⟩ := bind_some h
   refine za tok 8 ?_
   simp only [go_sem, rL, rE, rA, reduceCtorEq, f4]
   refine zf rfl rfl rfl (vint_Put.ev a0 (IntKind.u64.wrap (IntKind.i64.wrap ((IntKind.i64.wrap (2 * a1.fTag)) + a1.fWire))) r5 hr5 _) ?_
   rintro _ _ ⟨rfl, rfl⟩
   refine za tok 1 ?_
   simp only [go_sem, rL, rE, reduceCtorEq]
   refine zb ?_
   simp only [zd, upd, rE, reduceIte, zk, fs_nil]
   refine hK _ _ ?_
   refine ze fun Z6 hZ6 => ?_
   refine rg tok [3, 6, 22] fun K hK => ?_
   simp only [go_sem, rL, rE, rA]
   refine hK _ _ ?_
   refine awp_if rfl (fun hc7 => ?_) (fun hc7 => ?_)
   · skip
     rw [if_pos hc7] at h
     have t8 := eq_true hc7
     refine rc [4, 5] fun K hK => ?_
     obtain ⟨r9, hr9, h⟩ := bnd_elim h
     refine za tok 3 ?_
     simp only [go_sem, rL, rE, rA, t8]
     refine zf rfl rfl rfl (vint_Zig.ev a1.fN r9 hr9 _) ?_
     rintro _ _ ⟨rfl, rfl⟩
     obtain ⟨r10, hr10, h⟩ := bind_some h
     refine zf rfl rfl rfl (vint_Put.ev r5 r9 r10 hr10 _) ?_
     rintro _ _ ⟨rfl, rfl⟩
     refine za tok 2 ?_
     simp only [go_sem, rL, rE]
     refine zb ?_
     simp only [zd, upd, rE, reduceIte, zk, fs_nil]
     refine hK _ _ ?_
     refine zi ?_
     obtain rfl := Option.some.inj h
     exact retA
   · skip
     rw [if_neg hc7] at h
     have t11 := eq_false hc7
     refine zh ?_
     refine hZ6 _ _ ?_
     have f12 := conv_int (T := tab) (src := 3) (dst := 85) rfl rfl rfl
     obtain ⟨r13, hr13, h⟩ := bind_some h
     obtain ⟨_u14, hu14, h⟩ := bind_some h
     have gu14 := room_some hu14
     have f15 := (zo E35.len r13)
     refine rd [4, 5] fun K hK => ?_
     refine DW.start (T := tab) [.any, .any, .at [], .at [], .at [], .eff, .any, .own 1 [], .eff, .any, .any] [(1, [])] ?_
     refine DW.runN tok 5 ?_
     simp only [go_sem, rL, rE, rA, t11, f12, List.length_cons, List.length_nil, Nat.zero_add]
     refine DW.callS rfl rfl rfl (@id (ACalls Tryd.prog 38 [.ds true (List.flatMap encB r5) (List.length r5) false, .int .u64 (IntKind.u64.wrap (List.length a1.fB : Int))] [.cells 0 [.int .i64 a1.fTag, .int .i64 a1.fWire, .int .i64 a1.fN, .str a1.fB]] (fun r' σ' => r' = .os true 1 1 0 0 (List.length r13) false ∧ σ' = [.cells 0 [.int .i64 a1.fTag, .int .i64 a1.fWire, .int .i64 a1.fN, .str a1.fB], .cells 0 (List.flatMap encB r13)])) ((vint_Put.own r5 (IntKind.u64.wrap (List.length a1.fB : Int)) r13 hr13).ownAt0 (by simp only [push_cast]) (by simp only [push_cast]) _)) (agrs_Agrs (by simp only [go_sem, rD])) ?_
     refine DW.runN tok 5 ?_
     simp only [go_sem, rL, rD, rE, rA, evAppend, evAppendTo, lenOfAV, true_and, gu14, f15, srcCells_s, bys_flatMap, ones_all, List.length_cons, List.length_nil, Nat.zero_add]
     refine DW.fin tok (by decide +kernel) rfl ?_
     simp only [zd, upd, rE, reduceIte, zk, fs_nil]
     refine hK _ _ ?_
     refine awp_tellS (L := [(4, .os true 1 1 (0 + 1) 0 (List.length (r13 ++ a1.fB)) false), (5, .bool true)]) (τ := [.cells 0 [.int .i64 a1.fTag, .int .i64 a1.fWire, .int .i64 a1.fN, .str a1.fB], .cells (0 + 1) (List.flatMap encB (r13 ++ a1.fB))]) .s ?_
     refine zi ?_
     obtain rfl := Option.some.inj h
     exact retA
theorem wire_Put.ev (a0 : List UInt8) (a1 : GRaw) (r : List UInt8 × Bool) (h : wire_Put a0 a1 = some r) (σ : Store) : ACalls Tryd.prog 19 [.ds true (List.flatMap encB a0) (List.length a0) false, .agg (encGRaw a1)] σ (fun r' σ' => r' = .tup [.ds true (List.flatMap encB r.1) (List.length r.1) false, .bool r.2] ∧ σ' = σ) :=
 (wire_Put.ok a0 a1 r h).c σ
def wire_PutAll.l11 : List GRaw → Int → List UInt8 → Option (List UInt8 × Int)
 | [], x8, x7 => some (x7, 0)
 | y11 :: q11, x8, x7 => (wire_Put x7 y11).bind fun r17 => (if 4096 < (List.length r17.1 : Int) then some (([] : List UInt8), 4) else ((wire_PutAll.l11 q11) (x8 + 1) r17.1))
def wire_PutAll.l4 (a0 : List GRaw) : List GRaw → Int → Option (List UInt8 × Int)
 | [], x2 => (wire_PutAll.l11 a0 0 ([] : List UInt8))
 | y4 :: q4, x2 => bnd (wire_Check y4) fun r25 => (if (!r25) = true then some (([] : List UInt8), 1) else ((wire_PutAll.l4 a0 q4) (x2 + 1)))
def wire_PutAll (a0 : List GRaw) : Option (List UInt8 × Int) :=
 (wire_PutAll.l4 a0 a0 0)
theorem wire_PutAll.ok (a0 : List GRaw) (r : List UInt8 × Int) (h : wire_PutAll a0 = some r) : ACalls Tryd.prog 11 [.ds true (List.flatMap encGRaw a0) (List.length a0) false] [] (fun r' _ => r' = .tup [.ds true (List.flatMap encB r.1) (List.length r.1) false, .int .i64 r.2]) := by
 refine zl (rs := [.tmp 2, .tmp 3]) tok Tryd.func11 rfl Tryd.ntmps11 rfl Tryd.call11 (by simp) ?_
 refine zm [(0, .ds true (List.flatMap encGRaw a0) (List.length a0) false)] ⟨rfl, trivial⟩ ?_
 unfold wire_PutAll at h
 refine rg tok [0] fun K hK => ?_
 simp only [go_sem, rL, reduceCtorEq]
 refine hK _ _ ?_
 refine ze fun Z1 hZ1 => ?_
 refine rg tok [0, 9, 10, 11] fun K hK => ?_
 simp only [go_sem, rL, rE, reduceCtorEq]
 refine hK _ _ ?_
 refine zj ?_
 refine awp_deep 0 fun hb4 => ?_
 replace hb4 : List.length a0 ≤ 9223372036854775807 := hb4.1
 refine zt (fun m L τ => ∃ (p4 q4 : List GRaw) (x2 : Int), m = List.length q4 ∧ L = ([(0, .ds true (List.flatMap encGRaw a0) (List.length a0) false), (9, .ds true (List.flatMap encGRaw a0) (List.length a0) false), (10, .int .i64 (List.length a0 : Int)), (11, .int .i64 x2)] : List (Nat × AV)) ∧ τ = ([] : Store) ∧ a0 = p4 ++ q4 ∧ x2 = (List.length p4 : Int) ∧ wire_PutAll.l4 a0 q4 x2 = some r) _ ⟨[], a0, 0, rfl, rfl, rfl, rfl, rfl, h⟩ .s ?_
 rintro m L τ ⟨p4, q4, x2, rfl, rfl, rfl, hE4, hi4, h⟩
 rcases q4 with _ | ⟨y4, q4⟩
 · have hz4 := zip_nil hE4 hi4
   simp only [wire_PutAll.l4] at h
   refine rg tok [0, 9, 10, 11, 12] fun K hK => ?_
   simp only [go_sem, rL, rE, reduceCtorEq, hz4]
   refine hK _ _ ?_
   refine ze fun Z5 hZ5 => ?_
   refine zp rfl ?_
   refine zx ?_
   refine hZ1 _ _ ?_
   refine rg tok [0, 6] fun K hK => ?_
   simp only [go_sem, rL, rE, reduceCtorEq]
   refine hK _ _ ?_
   refine ze fun Z6 hZ6 => ?_
   refine rg tok [6, 19, 20, 21] fun K hK => ?_
   simp only [go_sem, rL, rE, reduceCtorEq]
   refine hK _ _ ?_
   refine zj ?_
   refine awp_deep 19 fun hb11 => ?_
   replace hb11 : List.length a0 ≤ 9223372036854775807 := hb11.1
   refine zt (fun m L τ => ∃ (p11 q11 : List GRaw) (x8 : Int) (x7 : List UInt8), m = List.length q11 ∧ L = ([(6, .ds true (List.flatMap encB x7) (List.length x7) false), (19, .ds true (List.flatMap encGRaw a0) (List.length a0) false), (20, .int .i64 (List.length a0 : Int)), (21, .int .i64 x8)] : List (Nat × AV)) ∧ τ = ([] : Store) ∧ a0 = p11 ++ q11 ∧ x8 = (List.length p11 : Int) ∧ wire_PutAll.l11 q11 x8 x7 = some r) _ ⟨[], a0, 0, ([] : List UInt8), rfl, rfl, rfl, rfl, rfl, h⟩ (.t [] true) ?_
   rintro m L τ ⟨p11, q11, x8, x7, rfl, rfl, rfl, hE11, hi11, h⟩
   rcases q11 with _ | ⟨y11, q11⟩
   · have hz11 := zip_nil hE11 hi11
     simp only [wire_PutAll.l11] at h
     refine rg tok [6, 19, 20, 21, 22] fun K hK => ?_
     simp only [go_sem, rL, rE, hz11]
     refine hK _ _ ?_
     refine ze fun Z12 hZ12 => ?_
     refine zp rfl ?_
     refine zx ?_
     refine hZ6 _ _ ?_
     refine rg tok [2, 3] fun K hK => ?_
     simp only [go_sem, rL, rE]
     refine hK _ _ ?_
     refine zi ?_
     obtain rfl := Option.some.inj h
     exact retA
   · obtain ⟨hz11, hw11, hx11, hE'11, hi'11⟩ := zip_cons hE11 hi11 hb11
     simp only [wire_PutAll.l11] at h
     refine rg tok [6, 19, 20, 21, 22] fun K hK => ?_
     simp only [go_sem, rL, rE, hz11]
     refine hK _ _ ?_
     refine ze fun Z13 hZ13 => ?_
     refine zr rfl ?_
     refine zh ?_
     refine hZ13 _ _ ?_
     refine ze fun Z14 hZ14 => ?_
     refine zj ?_
     have f15 := E22.idxS hx11
     have f16 := E22.loadS rfl rfl hx11
     refine rg tok [6, 8, 19, 20, 21] fun K hK => ?_
     simp only [go_sem, rL, rD, rE, rA, encGRaw, f15, f16]
     refine hK _ _ ?_
     refine rc [6, 19, 20, 21] fun K hK => ?_
     obtain ⟨r17, hr17, h⟩ := bind_some h
     refine za tok 2 ?_
     simp only [go_sem, rL, rD, rE, rA]
     refine zf rfl rfl rfl (wire_Put.ev x7 y11 r17 hr17 _) ?_
     rintro _ _ ⟨rfl, rfl⟩
     refine za tok 4 ?_
     simp only [go_sem, rL, rE, rA]
     refine zb ?_
     simp only [zd, upd, rE, reduceIte, zk, fs_nil]
     refine hK _ _ ?_
     refine rg tok [6, 19, 20, 21, 33] fun K hK => ?_
     simp only [go_sem, rL, rE]
     refine hK _ _ ?_
     refine awp_if rfl (fun hc18 => ?_) (fun hc18 => ?_)
     · skip
       rw [if_pos hc18] at h
       have t19 := eq_true hc18
       refine rg tok [2, 3] fun K hK => ?_
       simp only [go_sem, rL, rE, t19]
       refine hK _ _ ?_
       refine zi ?_
       obtain rfl := Option.some.inj h
       exact retA
     · skip
       rw [if_neg hc18] at h
       have t20 := eq_false hc18
       refine zh ?_
       refine hZ14 _ _ ?_
       refine rgE tok [6, 19, 20, 21] fun K hK => ?_
       simp only [go_sem, rL, rE, hw11, t20]
       refine hK _ _ ?_
       exact ⟨_, _, _, Nat.lt_succ_self q11.length, ⟨p11 ++ [y11], q11, x8 + 1, r17.1, rfl, rfl, rfl, hE'11, hi'11, h⟩, (.t [] false)⟩
 · obtain ⟨hz4, hw4, hx4, hE'4, hi'4⟩ := zip_cons hE4 hi4 hb4
   simp only [wire_PutAll.l4] at h
   refine rg tok [0, 9, 10, 11, 12] fun K hK => ?_
   simp only [go_sem, rL, rE, reduceCtorEq, hz4]
   refine hK _ _ ?_
   refine ze fun Z21 hZ21 => ?_
   refine zr rfl ?_
   refine zh ?_
   refine hZ21 _ _ ?_
   refine ze fun Z22 hZ22 => ?_
   refine zj ?_
   have f23 := E22.idxS hx4
   have f24 := E22.loadS rfl rfl hx4
   refine rg tok [0, 5, 9, 10, 11] fun K hK => ?_
   simp only [go_sem, rL, rD, rE, rA, reduceCtorEq, encGRaw, f23, f24]
   refine hK _ _ ?_
   refine rc [0, 9, 10, 11, 17] fun K hK => ?_
   obtain ⟨r25, hr25, h⟩ := bnd_elim h
   refine za tok 1 ?_
   simp only [go_sem, rL, rD, rE, rA, reduceCtorEq]
   refine zf rfl rfl rfl (wire_Check.ev y4 r25 hr25 _) ?_
   rintro _ _ ⟨rfl, rfl⟩
   refine za tok 1 ?_
   simp only [go_sem, rL, rE, reduceCtorEq]
   refine zb ?_
   simp only [zd, upd, rE, reduceIte, zk, fs_nil]
   refine hK _ _ ?_
   refine zw (b := (!r25)) rfl (fun hc26 => ?_) (fun hc26 => ?_)
   · skip
     rw [if_pos hc26] at h
     refine rg tok [2, 3] fun K hK => ?_
     simp only [go_sem, rL, rE, reduceCtorEq]
     refine hK _ _ ?_
     refine zi ?_
     obtain rfl := Option.some.inj h
     exact retA
   · skip
     rw [if_F hc26] at h
     refine zh ?_
     refine hZ22 _ _ ?_
     refine rgE tok [0, 9, 10, 11] fun K hK => ?_
     simp only [go_sem, rL, rE, reduceCtorEq, hw4]
     refine hK _ _ ?_
     exact ⟨_, _, _, Nat.lt_succ_self q4.length, ⟨p4 ++ [y4], q4, x2 + 1, rfl, rfl, rfl, hE'4, hi'4, h⟩, (.t [] false)⟩
theorem wire_PutAll.ev (a0 : List GRaw) (r : List UInt8 × Int) (h : wire_PutAll a0 = some r) (σ : Store) : ACalls Tryd.prog 11 [.ds true (List.flatMap encGRaw a0) (List.length a0) false] σ (fun r' σ' => r' = .tup [.ds true (List.flatMap encB r.1) (List.length r.1) false, .int .i64 r.2] ∧ σ' = σ) :=
 (wire_PutAll.ok a0 r h).c σ
def encode_bytes.body (self_encode_bytes : GValueNode → Option (List UInt8 × Int)) (self_encode_raw : Int → GValueValue → Option (GRaw × Int)) (self_encode_raws : GValueNode → Option (List GRaw × Int)) (a0 : GValueNode) : Option (List UInt8 × Int) :=
 (self_encode_raws a0).bind fun r1 => (if r1.2 = 0 then (wire_PutAll r1.1).bind fun r6 => some (r6.1, r6.2) else some (([] : List UInt8), r1.2))
theorem encode_bytes.step (self_encode_bytes : GValueNode → Option (List UInt8 × Int)) (self_encode_raw : Int → GValueValue → Option (GRaw × Int)) (self_encode_raws : GValueNode → Option (List GRaw × Int)) (ih_encode_bytes : ∀ (a0 : GValueNode) (r : List UInt8 × Int), self_encode_bytes a0 = some r → ACalls Tryd.prog 127 [.dp (encGValueNode a0) 0] [] (fun r' _ => r' = .tup [.ds true (List.flatMap encB r.1) (List.length r.1) false, .int .i64 r.2])) (ih_encode_raw : ∀ (a0 : Int) (a1 : GValueValue) (r : GRaw × Int), self_encode_raw a0 a1 = some r → ACalls Tryd.prog 107 [.int .i64 a0, .agg (encGValueValue a1)] [] (fun r' _ => r' = .tup [.agg (encGRaw r.1), .int .i64 r.2])) (ih_encode_raws : ∀ (a0 : GValueNode) (r : List GRaw × Int), self_encode_raws a0 = some r → ACalls Tryd.prog 75 [.dp (encGValueNode a0) 0] [] (fun r' _ => r' = .tup [.ds true (List.flatMap encGRaw r.1) (List.length r.1) false, .int .i64 r.2])) (a0 : GValueNode) (r : List UInt8 × Int) (h : encode_bytes.body self_encode_bytes self_encode_raw self_encode_raws a0 = some r) : ACalls Tryd.prog 127 [.dp (encGValueNode a0) 0] [] (fun r' _ => r' = .tup [.ds true (List.flatMap encB r.1) (List.length r.1) false, .int .i64 r.2]) := by
 have ev_encode_bytes := fun a0 r h σ => (ih_encode_bytes a0 r h).c σ
 have ev_encode_raw := fun a0 a1 r h σ => (ih_encode_raw a0 a1 r h).c σ
 have ev_encode_raws := fun a0 r h σ => (ih_encode_raws a0 r h).c σ
 refine zl (rs := [.tmp 2, .tmp 3]) tok Tryd.func127 rfl Tryd.ntmps127 rfl Tryd.call127 (by simp) ?_
 refine zm [(0, .dp (encGValueNode a0) 0)] ⟨rfl, trivial⟩ ?_
 unfold encode_bytes.body at h
 refine rg tok [0] fun K hK => ?_
 simp only [go_sem, rL, reduceCtorEq]
 refine hK _ _ ?_
 refine rc [4, 5] fun K hK => ?_
 obtain ⟨r1, hr1, h⟩ := bind_some h
 refine za tok 1 ?_
 simp only [go_sem, rL]
 refine zf rfl rfl rfl (ev_encode_raws a0 r1 hr1 _) ?_
 rintro _ _ ⟨rfl, rfl⟩
 refine za tok 5 ?_
 simp only [go_sem, rL, rE, rA, reduceCtorEq]
 refine zb ?_
 simp only [zd, upd, rE, reduceIte, zk, fs_nil]
 refine hK _ _ ?_
 refine ze fun Z2 hZ2 => ?_
 refine rg tok [4, 5, 12] fun K hK => ?_
 simp only [go_sem, rL, rE]
 refine hK _ _ ?_
 refine awp_if rfl (fun hc3 => ?_) (fun hc3 => ?_)
 · skip
   rw [if_neg hc3] at h
   have t4 := eq_false hc3
   refine rg tok [2, 3] fun K hK => ?_
   simp only [go_sem, rL, rE, t4]
   refine hK _ _ ?_
   refine zi ?_
   obtain rfl := Option.some.inj h
   exact retA
 · skip
   rw [if_pos hc3] at h
   have t5 := eq_true hc3
   refine zh ?_
   refine hZ2 _ _ ?_
   refine rc [2, 3] fun K hK => ?_
   obtain ⟨r6, hr6, h⟩ := bind_some h
   refine za tok 1 ?_
   simp only [go_sem, rL, rE, t5]
   refine zf rfl rfl rfl (wire_PutAll.ev r1.1 r6 hr6 _) ?_
   rintro _ _ ⟨rfl, rfl⟩
   refine za tok 4 ?_
   simp only [go_sem, rL, rE, rA]
   refine zb ?_
   simp only [zd, upd, rE, reduceIte, zk, fs_nil]
   refine hK _ _ ?_
   refine zi ?_
   obtain rfl := Option.some.inj h
   exact retA
def encode_raw.j3 (m1_2 : GRaw) : Option (GRaw × Int) :=
 (if 4096 < (List.length m1_2.fB : Int) then some ((⟨0, 0, 0, []⟩ : GRaw), 4) else some (m1_2, 0))
def encode_raw.body (self_encode_bytes : GValueNode → Option (List UInt8 × Int)) (self_encode_raw : Int → GValueValue → Option (GRaw × Int)) (self_encode_raws : GValueNode → Option (List GRaw × Int)) (a0 : Int) (a1 : GValueValue) : Option (GRaw × Int) :=
 (encode_kept a1).bind fun r8 => (match r8 with | .nil => (encode_raw.j3 (⟨a0, 1, 0, []⟩ : GRaw)) | .num n9 => some ((⟨a0, 0, n9, []⟩ : GRaw), 0) | .str s9 => (encode_raw.j3 (⟨a0, 1, 0, s9⟩ : GRaw)) | .node e9 r9 => (self_encode_bytes (⟨e9, r9⟩ : GValueNode)).bind fun r10 => (if r10.2 = 0 then (encode_raw.j3 (⟨a0, 1, 0, r10.1⟩ : GRaw)) else some ((⟨0, 0, 0, []⟩ : GRaw), r10.2)))
theorem encode_raw.step (self_encode_bytes : GValueNode → Option (List UInt8 × Int)) (self_encode_raw : Int → GValueValue → Option (GRaw × Int)) (self_encode_raws : GValueNode → Option (List GRaw × Int)) (ih_encode_bytes : ∀ (a0 : GValueNode) (r : List UInt8 × Int), self_encode_bytes a0 = some r → ACalls Tryd.prog 127 [.dp (encGValueNode a0) 0] [] (fun r' _ => r' = .tup [.ds true (List.flatMap encB r.1) (List.length r.1) false, .int .i64 r.2])) (ih_encode_raw : ∀ (a0 : Int) (a1 : GValueValue) (r : GRaw × Int), self_encode_raw a0 a1 = some r → ACalls Tryd.prog 107 [.int .i64 a0, .agg (encGValueValue a1)] [] (fun r' _ => r' = .tup [.agg (encGRaw r.1), .int .i64 r.2])) (ih_encode_raws : ∀ (a0 : GValueNode) (r : List GRaw × Int), self_encode_raws a0 = some r → ACalls Tryd.prog 75 [.dp (encGValueNode a0) 0] [] (fun r' _ => r' = .tup [.ds true (List.flatMap encGRaw r.1) (List.length r.1) false, .int .i64 r.2])) (a0 : Int) (a1 : GValueValue) (r : GRaw × Int) (h : encode_raw.body self_encode_bytes self_encode_raw self_encode_raws a0 a1 = some r) : ACalls Tryd.prog 107 [.int .i64 a0, .agg (encGValueValue a1)] [] (fun r' _ => r' = .tup [.agg (encGRaw r.1), .int .i64 r.2]) := by
 have ev_encode_bytes := fun a0 r h σ => (ih_encode_bytes a0 r h).c σ
 have ev_encode_raw := fun a0 a1 r h σ => (ih_encode_raw a0 a1 r h).c σ
 have ev_encode_raws := fun a0 r h σ => (ih_encode_raws a0 r h).c σ
 refine zl (rs := [.cell 4 33, .tmp 5]) tok Tryd.func107 rfl Tryd.ntmps107 rfl Tryd.call107 (by simp) ?_
 refine zm [(0, .int .i64 a0), (1, .agg (encGValueValue a1))] ⟨rfl, rfl, trivial⟩ ?_
 unfold encode_raw.body at h
 have f1 := oneIfcV a1
 unfold AV.one at f1
 refine rg tok [0, 3, 4] fun K hK => ?_
 simp only [go_sem, rL, rE, reduceCtorEq, encGValueValue, f1]
 refine hK _ _ ?_
 refine rg tok [0, 3, 4, 6] fun K hK => ?_
 simp only [go_sem, rL, rD, rE, rA, reduceCtorEq]
 refine hK _ _ ?_
 refine awp_join (fun L τ => ∃ (m1_2 : GRaw), L = ([(4, .op 0 0 0), (6, .op 1 0 0)] : List (Nat × AV)) ∧ τ = ([.cells 0 [.int .i64 0, .int .i64 0, .int .i64 0, .str []], .cells 0 [.int .i64 m1_2.fTag, .int .i64 m1_2.fWire, .int .i64 m1_2.fN, .str m1_2.fB]] : Store) ∧ encode_raw.j3 m1_2 = some r) ?_ ?_
 · skip
   refine rc [0, 4, 6, 15] fun K hK => ?_
   obtain ⟨r8, hr8, h⟩ := bind_some h
   refine za tok 1 ?_
   simp only [go_sem, rL, rD, rE, reduceCtorEq]
   refine zf rfl rfl rfl (encode_kept.ev a1 r8 hr8 _) ?_
   rintro _ _ ⟨rfl, rfl⟩
   refine zb ?_
   simp only [zd, updO, upd, rE, reduceIte, zk, fs_nil]
   refine hK _ _ ?_
   refine zj ?_
   rcases r8 with _ | n9 | s9 | ⟨e9, r9⟩
   · skip
     dsimp only at h
     try simp only [anyV_nil]
     refine rg tok [0, 4, 6, 15, 17, 18] fun K hK => ?_
     simp only [go_sem, rL, rE, rA, reduceCtorEq, evAssert, assertIn, TypeDesc.isIface]
     refine hK _ _ ?_
     refine zp rfl ?_
     refine rg tok [4, 6, 15, 23, 24] fun K hK => ?_
     simp only [go_sem, rL, rE, rA, reduceCtorEq, evAssert, assertIn, TypeDesc.isIface]
     refine hK _ _ ?_
     refine zp rfl ?_
     refine rg tok [4, 6, 28, 29] fun K hK => ?_
     simp only [go_sem, rL, rE, rA, evAssert, assertIn, TypeDesc.isIface]
     refine hK _ _ ?_
     refine zp rfl ?_
     refine zh ?_
     exact ⟨_, _, ⟨(⟨a0, 1, 0, []⟩ : GRaw), rfl, rfl, h⟩, (.t [1, 2] false)⟩
   · skip
     dsimp only at h
     try simp only [anyV_num]
     refine rg tok [0, 4, 6, 15, 17, 18] fun K hK => ?_
     simp only [go_sem, rL, rE, rA, reduceCtorEq, evAssert, assertIn, TypeDesc.isIface]
     refine hK _ _ ?_
     refine zr rfl ?_
     refine rg tok [0, 4, 7] fun K hK => ?_
     simp only [go_sem, rL, rE, reduceCtorEq]
     refine hK _ _ ?_
     refine rg tok [4, 5] fun K hK => ?_
     simp only [go_sem, rL, rD, rE, rA, reduceCtorEq]
     refine hK _ _ ?_
     refine zi ?_
     obtain rfl := Option.some.inj h
     exact retA
   · skip
     dsimp only at h
     try simp only [anyV_str]
     refine rg tok [0, 4, 6, 15, 17, 18] fun K hK => ?_
     simp only [go_sem, rL, rE, rA, reduceCtorEq, evAssert, assertIn, TypeDesc.isIface]
     refine hK _ _ ?_
     refine zp rfl ?_
     refine rg tok [4, 6, 15, 23, 24] fun K hK => ?_
     simp only [go_sem, rL, rE, rA, reduceCtorEq, evAssert, assertIn, TypeDesc.isIface]
     refine hK _ _ ?_
     refine zr rfl ?_
     refine rg tok [4, 6, 8] fun K hK => ?_
     simp only [go_sem, rL, rE]
     refine hK _ _ ?_
     refine rgE tok [4, 6] fun K hK => ?_
     simp only [go_sem, rL, rD, rE, rA]
     refine hK _ _ ?_
     exact ⟨_, _, ⟨(⟨a0, 1, 0, s9⟩ : GRaw), rfl, rfl, h⟩, (.t [1, 2] false)⟩
   · skip
     dsimp only at h
     try simp only [anyV_node]
     refine rg tok [0, 4, 6, 15, 17, 18] fun K hK => ?_
     simp only [go_sem, rL, rE, rA, reduceCtorEq, evAssert, assertIn, TypeDesc.isIface]
     refine hK _ _ ?_
     refine zp rfl ?_
     refine rg tok [4, 6, 15, 23, 24] fun K hK => ?_
     simp only [go_sem, rL, rE, rA, reduceCtorEq, evAssert, assertIn, TypeDesc.isIface]
     refine hK _ _ ?_
     refine zp rfl ?_
     refine rg tok [4, 6, 28, 29] fun K hK => ?_
     simp only [go_sem, rL, rE, rA, evAssert, assertIn, TypeDesc.isIface]
     refine hK _ _ ?_
     refine zr rfl ?_
     refine rg tok [4, 6, 9] fun K hK => ?_
     simp only [go_sem, rL, rE]
     refine hK _ _ ?_
     refine rc [4, 6, 10, 11] fun K hK => ?_
     obtain ⟨r10, hr10, h⟩ := bind_some h
     refine za tok 1 ?_
     simp only [go_sem, rL, rE]
     refine zf rfl rfl rfl (ev_encode_bytes (⟨e9, r9⟩ : GValueNode) r10 hr10 _) ?_
     rintro _ _ ⟨rfl, rfl⟩
     refine za tok 5 ?_
     simp only [go_sem, rL, rE, rA]
     refine zb ?_
     simp only [zd, upd, rE, reduceIte, zk, fs_nil]
     refine hK _ _ ?_
     refine ze fun Z11 hZ11 => ?_
     refine rg tok [4, 6, 10, 11, 36] fun K hK => ?_
     simp only [go_sem, rL, rE]
     refine hK _ _ ?_
     refine awp_if rfl (fun hc12 => ?_) (fun hc12 => ?_)
     · skip
       rw [if_neg hc12] at h
       have t13 := eq_false hc12
       refine rg tok [4, 5] fun K hK => ?_
       simp only [go_sem, rL, rD, rE, rA, t13]
       refine hK _ _ ?_
       refine zi ?_
       obtain rfl := Option.some.inj h
       exact retA
     · skip
       rw [if_pos hc12] at h
       have t14 := eq_true hc12
       refine zh ?_
       refine hZ11 _ _ ?_
       have f15 := conv_b2s (T := tab) (src := 35) (dst := 9) rfl rfl rfl rfl rfl rfl r10.1
       refine rgE tok [4, 6] fun K hK => ?_
       simp only [go_sem, rL, rD, rE, rA, t14, f15]
       refine hK _ _ ?_
       exact ⟨_, _, ⟨(⟨a0, 1, 0, r10.1⟩ : GRaw), rfl, rfl, h⟩, (.t [1, 2] false)⟩
 rintro _ _ ⟨m1_2, rfl, rfl, h⟩
 unfold encode_raw.j3 at h
 refine ze fun Z4 hZ4 => ?_
 refine rg tok [4, 6, 45] fun K hK => ?_
 simp only [go_sem, rL, rE, rA]
 refine hK _ _ ?_
 refine awp_if rfl (fun hc5 => ?_) (fun hc5 => ?_)
 · skip
   rw [if_pos hc5] at h
   have t6 := eq_true hc5
   refine rg tok [4, 5] fun K hK => ?_
   simp only [go_sem, rL, rD, rE, rA, t6]
   refine hK _ _ ?_
   refine zi ?_
   obtain rfl := Option.some.inj h
   exact retA
 · skip
   rw [if_neg hc5] at h
   have t7 := eq_false hc5
   refine zh ?_
   refine hZ4 _ _ ?_
   refine rg tok [4, 5] fun K hK => ?_
   simp only [go_sem, rL, rD, rE, rA, t7]
   refine hK _ _ ?_
   refine zi ?_
   obtain rfl := Option.some.inj h
   exact retA
def encode_raws.l24 (self_encode_raw : Int → GValueValue → Option (GRaw × Int)) (x6 : Int) (rec10 : Int → List GRaw → Option (List GRaw × Int)) (y10 : Int) : List GValueValue → Int → List GRaw → Option (List GRaw × Int)
 | [], x20, l18 => (rec10 (x6 + 1) l18)
 | y24 :: q24, x20, l18 => (self_encode_raw y10 y24).bind fun r31 => (if r31.2 = 0 then (room (List.length l18 + 1) 40).bind fun _u36 => ((encode_raws.l24 self_encode_raw x6 rec10 y10 q24) (x20 + 1) (l18 ++ [r31.1])) else some (([] : List GRaw), r31.2))
def encode_raws.l10 (self_encode_raw : Int → GValueValue → Option (GRaw × Int)) (a0 : GValueNode) : List Int → Int → List GRaw → Option (List GRaw × Int)
 | [], x6, l4 => (wire_Sorted l4).bind fun r12 => some (r12, 0)
 | y10 :: q10, x6, l4 => (value_Node_Get a0 y10).bind fun r17 => (encode_raws.l24 self_encode_raw x6 (encode_raws.l10 self_encode_raw a0 q10) y10 r17 0 l4)
def encode_raws.body (self_encode_bytes : GValueNode → Option (List UInt8 × Int)) (self_encode_raw : Int → GValueValue → Option (GRaw × Int)) (self_encode_raws : GValueNode → Option (List GRaw × Int)) (a0 : GValueNode) : Option (List GRaw × Int) :=
 (value_Node_Rest a0).bind fun r1 => (value_Node_Tags a0).bind fun r3 => (encode_raws.l10 self_encode_raw a0 r3 0 r1)
theorem encode_raws.step (self_encode_bytes : GValueNode → Option (List UInt8 × Int)) (self_encode_raw : Int → GValueValue → Option (GRaw × Int)) (self_encode_raws : GValueNode → Option (List GRaw × Int)) (ih_encode_bytes : ∀ (a0 : GValueNode) (r : List UInt8 × Int), self_encode_bytes a0 = some r → ACalls Tryd.prog 127 [.dp (encGValueNode a0) 0] [] (fun r' _ => r' = .tup [.ds true (List.flatMap encB r.1) (List.length r.1) false, .int .i64 r.2])) (ih_encode_raw : ∀ (a0 : Int) (a1 : GValueValue) (r : GRaw × Int), self_encode_raw a0 a1 = some r → ACalls Tryd.prog 107 [.int .i64 a0, .agg (encGValueValue a1)] [] (fun r' _ => r' = .tup [.agg (encGRaw r.1), .int .i64 r.2])) (ih_encode_raws : ∀ (a0 : GValueNode) (r : List GRaw × Int), self_encode_raws a0 = some r → ACalls Tryd.prog 75 [.dp (encGValueNode a0) 0] [] (fun r' _ => r' = .tup [.ds true (List.flatMap encGRaw r.1) (List.length r.1) false, .int .i64 r.2])) (a0 : GValueNode) (r : List GRaw × Int) (h : encode_raws.body self_encode_bytes self_encode_raw self_encode_raws a0 = some r) : ACalls Tryd.prog 75 [.dp (encGValueNode a0) 0] [] (fun r' _ => r' = .tup [.ds true (List.flatMap encGRaw r.1) (List.length r.1) false, .int .i64 r.2]) := by
 have ev_encode_bytes := fun a0 r h σ => (ih_encode_bytes a0 r h).c σ
 have ev_encode_raw := fun a0 a1 r h σ => (ih_encode_raw a0 a1 r h).c σ
 have ev_encode_raws := fun a0 r h σ => (ih_encode_raws a0 r h).c σ
 refine zl (rs := [.tmp 2, .tmp 3]) tok Tryd.func75 rfl Tryd.ntmps75 rfl Tryd.call75 (by simp) ?_
 refine zm [(0, .dp (encGValueNode a0) 0)] ⟨rfl, trivial⟩ ?_
 unfold encode_raws.body at h
 refine rg tok [0] fun K hK => ?_
 simp only [go_sem, rL, reduceCtorEq]
 refine hK _ _ ?_
 refine rc [0, 4] fun K hK => ?_
 obtain ⟨r1, hr1, h⟩ := bind_some h
 refine za tok 1 ?_
 simp only [go_sem, rL]
 refine zf rfl rfl rfl (@id (ACalls Tryd.prog 104 [.dp (encGValueNode a0) 0] [] (fun r' σ' => r' = .os true 4 0 0 0 (List.length r1) false ∧ σ' = [.cells 0 (List.flatMap encGRaw r1)])) ((value_Node_Rest.own a0 r1 hr1).ownAt0 (by simp only [push_cast]) (by simp only [push_cast]) _)) ?_
 rintro _ _ ⟨rfl, rfl⟩
 refine za tok 1 ?_
 simp only [go_sem, rL, rE, reduceCtorEq]
 refine zb ?_
 simp only [zd, upd, rE, reduceIte, zk, fs_nil]
 refine hK _ _ ?_
 refine ze fun Z2 hZ2 => ?_
 refine rc [0, 4, 14, 15, 16] fun K hK => ?_
 obtain ⟨r3, hr3, h⟩ := bind_some h
 refine za tok 1 ?_
 simp only [go_sem, rL, reduceCtorEq]
 refine zf rfl rfl rfl (value_Node_Tags.ev a0 r3 hr3 _) ?_
 rintro _ _ ⟨rfl, rfl⟩
 refine za tok 2 ?_
 simp only [go_sem, rL, rE, reduceCtorEq]
 refine zb ?_
 simp only [zd, upd, rE, reduceIte, zk, fs_nil]
 refine hK _ _ ?_
 refine zj ?_
 refine awp_deep 14 fun hb10 => ?_
 replace hb10 : List.length r3 ≤ 9223372036854775807 := hb10.1
 refine zt (fun m L τ => ∃ (p10 q10 : List Int) (x6 : Int) (l4 : List GRaw) (v5 : Nat), m = List.length q10 ∧ L = ([(0, .dp (encGValueNode a0) 0), (4, .os true 4 0 v5 0 (List.length l4) false), (14, .ds true (List.flatMap encI r3) (List.length r3) false), (15, .int .i64 (List.length r3 : Int)), (16, .int .i64 x6)] : List (Nat × AV)) ∧ τ = ([.cells v5 (List.flatMap encGRaw l4)] : Store) ∧ r3 = p10 ++ q10 ∧ x6 = (List.length p10 : Int) ∧ encode_raws.l10 self_encode_raw a0 q10 x6 l4 = some r) _ ⟨[], r3, 0, r1, 0, rfl, rfl, rfl, rfl, rfl, h⟩ .s ?_
 rintro m L τ ⟨p10, q10, x6, l4, v5, rfl, rfl, rfl, hE10, hi10, h⟩
 rcases q10 with _ | ⟨y10, q10⟩
 · have hz10 := zip_nil hE10 hi10
   simp only [encode_raws.l10] at h
   refine rg tok [0, 4, 14, 15, 16, 17] fun K hK => ?_
   simp only [go_sem, rL, rE, reduceCtorEq, hz10]
   refine hK _ _ ?_
   refine ze fun Z11 hZ11 => ?_
   refine zp rfl ?_
   refine zx ?_
   refine hZ2 _ _ ?_
   refine rc [2, 3] fun K hK => ?_
   obtain ⟨r12, hr12, h⟩ := bind_some h
   refine za tok 1 ?_
   simp only [go_sem, rL, rE, reduceCtorEq]
   refine ops_tellS (L := [(43, .ds true (List.flatMap encGRaw l4) (List.length l4) false)]) (τ := []) (.t [] false) ?_
   refine zf rfl rfl rfl (wire_Sorted.ev l4 r12 hr12 _) ?_
   rintro _ _ ⟨rfl, rfl⟩
   refine za tok 2 ?_
   simp only [go_sem, rL, rE]
   refine zb ?_
   simp only [zd, upd, rE, reduceIte, zk, fs_nil]
   refine hK _ _ ?_
   refine zi ?_
   obtain rfl := Option.some.inj h
   exact retA
 · obtain ⟨hz10, hw10, hx10, hE'10, hi'10⟩ := zip_cons hE10 hi10 hb10
   simp only [encode_raws.l10] at h
   refine rg tok [0, 4, 14, 15, 16, 17] fun K hK => ?_
   simp only [go_sem, rL, rE, reduceCtorEq, hz10]
   refine hK _ _ ?_
   refine ze fun Z13 hZ13 => ?_
   refine zr rfl ?_
   refine zh ?_
   refine hZ13 _ _ ?_
   refine ze fun Z14 hZ14 => ?_
   refine zj ?_
   have f15 := E24.idxS hx10
   have f16 := E24.fldS0 (f := 3) rfl rfl hx10
   refine rg tok [0, 4, 6, 14, 15, 16] fun K hK => ?_
   simp only [go_sem, rL, rE, reduceCtorEq, encI, f15, f16]
   refine hK _ _ ?_
   refine rc [0, 4, 6, 14, 15, 16, 22, 23, 24] fun K hK => ?_
   obtain ⟨r17, hr17, h⟩ := bind_some h
   refine za tok 2 ?_
   simp only [go_sem, rL, rE, reduceCtorEq]
   refine zf rfl rfl rfl (value_Node_Get.ev a0 y10 r17 hr17 _) ?_
   rintro _ _ ⟨rfl, rfl⟩
   refine za tok 2 ?_
   simp only [go_sem, rL, rE, reduceCtorEq]
   refine zb ?_
   simp only [zd, upd, rE, reduceIte, zk, fs_nil]
   refine hK _ _ ?_
   refine zj ?_
   refine awp_deep 22 fun hb24 => ?_
   replace hb24 : List.length r17 ≤ 9223372036854775807 := hb24.1
   refine zt (fun m L τ => ∃ (p24 q24 : List GValueValue) (x20 : Int) (l18 : List GRaw) (v19 : Nat), m = List.length q24 ∧ L = ([(0, .dp (encGValueNode a0) 0), (4, .os true 4 0 v19 0 (List.length l18) false), (6, .int .i64 y10), (14, .ds true (List.flatMap encI r3) (List.length r3) false), (15, .int .i64 (List.length r3 : Int)), (16, .int .i64 x6), (22, .ds true (List.flatMap encGValueValue r17) (List.length r17) false), (23, .int .i64 (List.length r17 : Int)), (24, .int .i64 x20)] : List (Nat × AV)) ∧ τ = ([.cells v19 (List.flatMap encGRaw l18)] : Store) ∧ r17 = p24 ++ q24 ∧ x20 = (List.length p24 : Int) ∧ encode_raws.l24 self_encode_raw x6 (encode_raws.l10 self_encode_raw a0 q10) y10 q24 x20 l18 = some r) _ ⟨[], r17, 0, l4, v5, rfl, rfl, rfl, rfl, rfl, h⟩ .s ?_
   rintro m L τ ⟨p24, q24, x20, l18, v19, rfl, rfl, rfl, hE24, hi24, h⟩
   rcases q24 with _ | ⟨y24, q24⟩
   · have hz24 := zip_nil hE24 hi24
     simp only [encode_raws.l24] at h
     refine rg tok [0, 4, 6, 14, 15, 16, 22, 23, 24, 25] fun K hK => ?_
     simp only [go_sem, rL, rE, reduceCtorEq, hz24]
     refine hK _ _ ?_
     refine ze fun Z25 hZ25 => ?_
     refine zp rfl ?_
     refine zx ?_
     refine hZ14 _ _ ?_
     refine rgE tok [0, 4, 14, 15, 16] fun K hK => ?_
     simp only [go_sem, rL, rE, reduceCtorEq, hw10]
     refine hK _ _ ?_
     exact ⟨_, _, _, Nat.lt_succ_self q10.length, ⟨p10 ++ [y10], q10, x6 + 1, l18, v19, rfl, rfl, rfl, hE'10, hi'10, h⟩, .s⟩
   · obtain ⟨hz24, hw24, hx24, hE'24, hi'24⟩ := zip_cons hE24 hi24 hb24
     simp only [encode_raws.l24] at h
     refine rg tok [0, 4, 6, 14, 15, 16, 22, 23, 24, 25] fun K hK => ?_
     simp only [go_sem, rL, rE, reduceCtorEq, hz24]
     refine hK _ _ ?_
     refine ze fun Z26 hZ26 => ?_
     refine zr rfl ?_
     refine zh ?_
     refine hZ26 _ _ ?_
     refine ze fun Z27 hZ27 => ?_
     refine zj ?_
     have f28 := E155.idxS hx24
     have f29 := E155.loadS rfl rfl hx24
     have f30 := oneIfcV y24
     unfold AV.one at f30
     refine rg tok [0, 4, 6, 8, 14, 15, 16, 22, 23, 24] fun K hK => ?_
     simp only [go_sem, rL, rD, rE, reduceCtorEq, encGValueValue, f28, f29, f30]
     refine hK _ _ ?_
     refine rc [0, 4, 6, 9, 10, 14, 15, 16, 22, 23, 24] fun K hK => ?_
     obtain ⟨r31, hr31, h⟩ := bind_some h
     refine za tok 2 ?_
     simp only [go_sem, rL, rD, rE, reduceCtorEq]
     refine zf rfl rfl rfl (ev_encode_raw y10 y24 r31 hr31 _) ?_
     rintro _ _ ⟨rfl, rfl⟩
     refine za tok 6 ?_
     simp only [go_sem, rL, rD, rE, rA, reduceCtorEq, encGRaw]
     refine zb ?_
     simp only [zd, upd, rE, reduceIte, zk, fs_nil]
     refine hK _ _ ?_
     refine ze fun Z32 hZ32 => ?_
     refine rg tok [0, 4, 6, 9, 10, 14, 15, 16, 22, 23, 24, 35] fun K hK => ?_
     simp only [go_sem, rL, rE, reduceCtorEq]
     refine hK _ _ ?_
     refine awp_if rfl (fun hc33 => ?_) (fun hc33 => ?_)
     · skip
       rw [if_neg hc33] at h
       have t34 := eq_false hc33
       refine rg tok [2, 3] fun K hK => ?_
       simp only [go_sem, rL, rE, reduceCtorEq, t34]
       refine hK _ _ ?_
       refine zi ?_
       obtain rfl := Option.some.inj h
       exact retA
     · skip
       rw [if_pos hc33] at h
       have t35 := eq_true hc33
       refine zh ?_
       refine hZ32 _ _ ?_
       obtain ⟨_u36, hu36, h⟩ := bind_some h
       have gu36 := room_some hu36
       have f37 := (zo E22.len l18)
       refine rgE tok [0, 4, 6, 14, 15, 16, 22, 23, 24] fun K hK => ?_
       simp only [go_sem, rL, rD, rE, rA, rM, reduceCtorEq, evBuildSlice, zeroRun, List.range_succ, List.range_zero, true_and, Nat.reduceMod, evAppend, evAppendTo, lenOfAV, t35, gu36, f37, srcCells_o, List.all_nil, List.all_cons, AV.one, Bool.and_self, List.nil_append, List.length_cons, List.length_nil, Nat.zero_add, List.cons_append]
       refine hK _ _ ?_
       refine hZ27 _ _ ?_
       refine rgE tok [0, 4, 6, 14, 15, 16, 22, 23, 24] fun K hK => ?_
       simp only [go_sem, rL, rE, reduceCtorEq, hw24]
       refine hK _ _ ?_
       exact ⟨_, _, _, Nat.lt_succ_self q24.length, ⟨p24 ++ [y24], q24, x20 + 1, l18 ++ [r31.1], v19 + 1, rfl, rfl, rfl, hE'24, hi'24, h⟩, (.t [0] false)⟩
mutual
def encode_bytes : Nat → GValueNode → Option (List UInt8 × Int)
 | 0, _ => none
 | k + 1, a0 => encode_bytes.body (encode_bytes k) (encode_raw k) (encode_raws k) a0
def encode_raw : Nat → Int → GValueValue → Option (GRaw × Int)
 | 0, _, _ => none
 | k + 1, a0, a1 => encode_raw.body (encode_bytes k) (encode_raw k) (encode_raws k) a0 a1
def encode_raws : Nat → GValueNode → Option (List GRaw × Int)
 | 0, _ => none
 | k + 1, a0 => encode_raws.body (encode_bytes k) (encode_raw k) (encode_raws k) a0
end
theorem encode_bytes.all (k : Nat) : (∀ (a0 : GValueNode) (r : List UInt8 × Int), encode_bytes k a0 = some r → ACalls Tryd.prog 127 [.dp (encGValueNode a0) 0] [] (fun r' _ => r' = .tup [.ds true (List.flatMap encB r.1) (List.length r.1) false, .int .i64 r.2])) ∧ (∀ (a0 : Int) (a1 : GValueValue) (r : GRaw × Int), encode_raw k a0 a1 = some r → ACalls Tryd.prog 107 [.int .i64 a0, .agg (encGValueValue a1)] [] (fun r' _ => r' = .tup [.agg (encGRaw r.1), .int .i64 r.2])) ∧ (∀ (a0 : GValueNode) (r : List GRaw × Int), encode_raws k a0 = some r → ACalls Tryd.prog 75 [.dp (encGValueNode a0) 0] [] (fun r' _ => r' = .tup [.ds true (List.flatMap encGRaw r.1) (List.length r.1) false, .int .i64 r.2])) := by
 induction k with
 | zero => exact ⟨(fun a0 r h => by simp only [encode_bytes] at h; cases h), (fun a0 a1 r h => by simp only [encode_raw] at h; cases h), (fun a0 r h => by simp only [encode_raws] at h; cases h)⟩
 | succ k ih => exact ⟨(fun a0 r h => encode_bytes.step _ _ _ ih.1 ih.2.1 ih.2.2 a0 r (by simpa only [encode_bytes] using h)), (fun a0 a1 r h => encode_raw.step _ _ _ ih.1 ih.2.1 ih.2.2 a0 a1 r (by simpa only [encode_raw] using h)), (fun a0 r h => encode_raws.step _ _ _ ih.1 ih.2.1 ih.2.2 a0 r (by simpa only [encode_raws] using h))⟩
theorem encode_raws.ev (k : Nat) (a0 : GValueNode) (r : List GRaw × Int) (h : encode_raws k a0 = some r) (σ : Store) : ACalls Tryd.prog 75 [.dp (encGValueNode a0) 0] σ (fun r' σ' => r' = .tup [.ds true (List.flatMap encGRaw r.1) (List.length r.1) false, .int .i64 r.2] ∧ σ' = σ) :=
 ((encode_bytes.all k).2.2 a0 r h).c σ
def encode_Raws (a0 : GTree) : Option (List GRaw × Int) :=
 (value_Of a0).bind fun r1 => (if ((!r1.2) || (!(decide (a0.fKind = 3)))) = true then some (([] : List GRaw), 1) else (value_Value_MustNode r1.1).bind fun r5 => (encode_raws rounds r5).bind fun r6 => some (r6.1, r6.2))
theorem encode_Raws.ok (a0 : GTree) (r : List GRaw × Int) (h : encode_Raws a0 = some r) : ACalls Tryd.prog 50 [.agg (cellsGTree a0)] [] (fun r' _ => r' = .tup [.ds true (List.flatMap encGRaw r.1) (List.length r.1) false, .int .i64 r.2]) := by
 refine zl (rs := [.tmp 2, .tmp 3]) tok Tryd.func50 rfl Tryd.ntmps50 rfl Tryd.call50 (by simp) ?_
 refine zm [(0, .agg (cellsGTree a0))] ⟨rfl, trivial⟩ ?_
 unfold encode_Raws at h
 refine rg tok [1] fun K hK => ?_
 simp only [go_sem, rL, rE, rA, reduceCtorEq, cellsGTree]
 refine hK _ _ ?_
 refine rc [1, 4, 5] fun K hK => ?_
 obtain ⟨r1, hr1, h⟩ := bind_some h
 refine za tok 1 ?_
 simp only [go_sem, rL, rD, rA]
 refine zf rfl rfl rfl (value_Of.ev a0 r1 hr1 _) ?_
 rintro _ _ ⟨rfl, rfl⟩
 have f2 := oneIfcV r1.1
 unfold AV.one at f2
 refine za tok 6 ?_
 simp only [go_sem, rL, rD, rE, rA, encGValueValue, f2]
 refine zb ?_
 simp only [zd, upd, rE, reduceIte, zk, fs_nil]
 refine hK _ _ ?_
 refine ze fun Z3 hZ3 => ?_
 refine rc [4, 17] fun K hK => ?_
 refine za tok 3 ?_
 simp only [go_sem, rL, rE]
 refine zn 4 (fun L τ => L = ([(4, .op 1 0 0), (17, .bool ((!r1.2) || (!(decide (a0.fKind = 3)))))] : List (Nat × AV)) ∧ τ = ([.cells 0 [.int .i64 a0.fKind, .int .i64 a0.fN, .str a0.fS, .ds true (List.flatMap encGEntry a0.fEntries) (List.length a0.fEntries) false, .ds true (List.flatMap encGRaw a0.fRest) (List.length a0.fRest) false], .cells 0 [ifcV r1.1]] : Store)) ?_ ?_
 · refine opsWp_at (b := (!r1.2)) 13 rfl (fun hg13 => ?_) (fun hg13 => ?_)
   · skip
     refine za tok 4 ?_
     simp only [go_sem, rL, rE]
     refine zb ⟨rfl, _, _, ⟨rfl, rfl⟩, .b hg13⟩
   · skip
     refine za tok 4 ?_
     simp only [go_sem, rL, rE, rA]
     refine zb ⟨rfl, _, _, ⟨rfl, rfl⟩, .b hg13⟩
 rintro _ _ ⟨rfl, rfl⟩
 refine zb ?_
 simp only [zd, rE, reduceIte, zk, fs_nil]
 refine hK _ _ ?_
 refine zw (b := ((!r1.2) || (!(decide (a0.fKind = 3))))) rfl (fun hc4 => ?_) (fun hc4 => ?_)
 · skip
   rw [if_pos hc4] at h
   refine rg tok [2, 3] fun K hK => ?_
   simp only [go_sem, rL, rE]
   refine hK _ _ ?_
   refine zi ?_
   obtain rfl := Option.some.inj h
   exact retA
 · skip
   rw [if_F hc4] at h
   refine zh ?_
   refine hZ3 _ _ ?_
   refine rc [2, 3] fun K hK => ?_
   obtain ⟨r5, hr5, h⟩ := bind_some h
   refine za tok 1 ?_
   simp only [go_sem, rL, rD, rE]
   refine zf rfl rfl rfl (value_Value_MustNode.ev r1.1 r5 hr5 _) ?_
   rintro _ _ ⟨rfl, rfl⟩
   obtain ⟨r6, hr6, h⟩ := bind_some h
   refine zf rfl rfl rfl (encode_raws.ev rounds r5 r6 hr6 _) ?_
   rintro _ _ ⟨rfl, rfl⟩
   refine za tok 4 ?_
   simp only [go_sem, rL, rE, rA]
   refine zb ?_
   simp only [zd, upd, rE, reduceIte, zk, fs_nil]
   refine hK _ _ ?_
   refine zi ?_
   obtain rfl := Option.some.inj h
   exact retA
theorem encode_Raws.ev (a0 : GTree) (r : List GRaw × Int) (h : encode_Raws a0 = some r) (σ : Store) : ACalls Tryd.prog 50 [.agg (cellsGTree a0)] σ (fun r' σ' => r' = .tup [.ds true (List.flatMap encGRaw r.1) (List.length r.1) false, .int .i64 r.2] ∧ σ' = σ) :=
 (encode_Raws.ok a0 r h).c σ
def encode_Encode (a0 : GTree) : Option (List UInt8 × Int) :=
 (encode_Raws a0).bind fun r1 => (if r1.2 = 0 then (wire_PutAll r1.1).bind fun r6 => some (r6.1, r6.2) else some (([] : List UInt8), r1.2))
theorem encode_Encode.ok (a0 : GTree) (r : List UInt8 × Int) (h : encode_Encode a0 = some r) : ACalls Tryd.prog 31 [.agg (cellsGTree a0)] [] (fun r' _ => r' = .tup [.ds true (List.flatMap encB r.1) (List.length r.1) false, .int .i64 r.2]) := by
 refine zl (rs := [.tmp 2, .tmp 3]) tok Tryd.func31 rfl Tryd.ntmps31 rfl Tryd.call31 (by simp) ?_
 refine zm [(0, .agg (cellsGTree a0))] ⟨rfl, trivial⟩ ?_
 unfold encode_Encode at h
 refine rg tok [1] fun K hK => ?_
 simp only [go_sem, rL, rE, rA, reduceCtorEq, cellsGTree]
 refine hK _ _ ?_
 refine rc [4, 5] fun K hK => ?_
 obtain ⟨r1, hr1, h⟩ := bind_some h
 refine za tok 1 ?_
 simp only [go_sem, rL, rD, rA]
 refine zf rfl rfl rfl (encode_Raws.ev a0 r1 hr1 _) ?_
 rintro _ _ ⟨rfl, rfl⟩
 refine za tok 5 ?_
 simp only [go_sem, rL, rE, rA]
 refine zb ?_
 simp only [zd, upd, rE, reduceIte, zk, fs_nil]
 refine hK _ _ ?_
 refine ze fun Z2 hZ2 => ?_
 refine rg tok [4, 5, 12] fun K hK => ?_
 simp only [go_sem, rL, rE]
 refine hK _ _ ?_
 refine awp_if rfl (fun hc3 => ?_) (fun hc3 => ?_)
 · skip
   rw [if_neg hc3] at h
   have t4 := eq_false hc3
   refine rg tok [2, 3] fun K hK => ?_
   simp only [go_sem, rL, rE, t4]
   refine hK _ _ ?_
   refine zi ?_
   obtain rfl := Option.some.inj h
   exact retA
 · skip
   rw [if_pos hc3] at h
   have t5 := eq_true hc3
   refine zh ?_
   refine hZ2 _ _ ?_
   refine rc [2, 3] fun K hK => ?_
   obtain ⟨r6, hr6, h⟩ := bind_some h
   refine za tok 1 ?_
   simp only [go_sem, rL, rE, t5]
   refine zf rfl rfl rfl (wire_PutAll.ev r1.1 r6 hr6 _) ?_
   rintro _ _ ⟨rfl, rfl⟩
   refine za tok 4 ?_
   simp only [go_sem, rL, rE, rA]
   refine zb ?_
   simp only [zd, upd, rE, reduceIte, zk, fs_nil]
   refine hK _ _ ?_
   refine zi ?_
   obtain rfl := Option.some.inj h
   exact retA
theorem encode_Encode.ev (a0 : GTree) (r : List UInt8 × Int) (h : encode_Encode a0 = some r) (σ : Store) : ACalls Tryd.prog 31 [.agg (cellsGTree a0)] σ (fun r' σ' => r' = .tup [.ds true (List.flatMap encB r.1) (List.length r.1) false, .int .i64 r.2] ∧ σ' = σ) :=
 (encode_Encode.ok a0 r h).c σ
def decode_Canonical (a0 : GSchema) (a1 : List UInt8) (a2 : List UInt8) : Option Bool :=
 (decode_Decode a0 a1 a2).bind fun r1 => (if r1.2 = 0 then (encode_Encode r1.1).bind fun r6 => some ((decide (r6.2 = 0)) && (decide (r6.1 = a2))) else some false)
theorem decode_Canonical.ok (a0 : GSchema) (a1 : List UInt8) (a2 : List UInt8) (r : Bool) (h : decode_Canonical a0 a1 a2 = some r) : ACalls Tryd.prog 17 [.agg (encGSchema a0), .str a1, .ds true (List.flatMap encB a2) (List.length a2) false] [] (fun r' _ => r' = .bool r) := by
 refine zl (rs := [.tmp 6]) tok Tryd.func17 rfl Tryd.ntmps17 rfl Tryd.call17 (by simp) ?_
 refine zm [(0, .agg (encGSchema a0)), (1, .str a1), (2, .ds true (List.flatMap encB a2) (List.length a2) false)] ⟨rfl, rfl, rfl, trivial⟩ ?_
 unfold decode_Canonical at h
 refine rg tok [1, 2, 3] fun K hK => ?_
 simp only [go_sem, rL, rE, rA, reduceCtorEq, encGSchema]
 refine hK _ _ ?_
 refine rc [2, 7, 8] fun K hK => ?_
 obtain ⟨r1, hr1, h⟩ := bind_some h
 refine za tok 3 ?_
 simp only [go_sem, rL, rD, rE, rA]
 refine zf rfl rfl rfl (decode_Decode.ev a0 a1 a2 r1 hr1 _) ?_
 rintro _ _ ⟨rfl, rfl⟩
 refine za tok 6 ?_
 simp only [go_sem, rL, rD, rE, rA, cellsGTree]
 refine zb ?_
 simp only [zd, upd, rE, reduceIte, zk, fs_nil]
 refine hK _ _ ?_
 refine ze fun Z2 hZ2 => ?_
 refine rg tok [2, 7, 18] fun K hK => ?_
 simp only [go_sem, rL, rE]
 refine hK _ _ ?_
 refine awp_if rfl (fun hc3 => ?_) (fun hc3 => ?_)
 · skip
   rw [if_neg hc3] at h
   have t4 := eq_false hc3
   refine rg tok [6] fun K hK => ?_
   simp only [go_sem, rL, rE, t4]
   refine hK _ _ ?_
   refine zi ?_
   obtain rfl := Option.some.inj h
   exact retA
 · skip
   rw [if_pos hc3] at h
   have t5 := eq_true hc3
   refine zh ?_
   refine hZ2 _ _ ?_
   refine rc [2, 8, 9] fun K hK => ?_
   obtain ⟨r6, hr6, h⟩ := bind_some h
   refine za tok 1 ?_
   simp only [go_sem, rL, rD, rE, rA, t5]
   refine zf rfl rfl rfl (encode_Encode.ev r1.1 r6 hr6 _) ?_
   rintro _ _ ⟨rfl, rfl⟩
   refine za tok 5 ?_
   simp only [go_sem, rL, rE, rA]
   refine zb ?_
   simp only [zd, upd, rE, reduceIte, zk, fs_nil]
   refine hK _ _ ?_
   refine rc [6] fun K hK => ?_
   refine za tok 3 ?_
   simp only [go_sem, rL, rE]
   refine zn 6 (fun L τ => L = ([(32, .bool ((decide (r6.2 = 0)) && (decide (r6.1 = a2))))] : List (Nat × AV)) ∧ τ = ([.cells 0 [.str a0.fName, .ds true (List.flatMap encGMessage a0.fMessages) (List.length a0.fMessages) false, .ds true (List.flatMap encGEnumeration a0.fEnums) (List.length a0.fEnums) false, .ds true (List.flatMap encGMethod a0.fMethods) (List.length a0.fMethods) false], .cells 0 [.int .i64 r1.1.fKind, .int .i64 r1.1.fN, .str r1.1.fS, .ds true (List.flatMap encGEntry r1.1.fEntries) (List.length r1.1.fEntries) false, .ds true (List.flatMap encGRaw r1.1.fRest) (List.length r1.1.fRest) false]] : Store)) ?_ ?_
   · refine ops_if 26 rfl (fun hg26 => ?_) (fun hg26 => ?_)
     · skip
       have t7 := eq_true hg26
       have f8 := conv_b2s (T := tab) (src := 35) (dst := 9) rfl rfl rfl rfl rfl rfl r6.1
       have f9 := conv_b2s (T := tab) (src := 35) (dst := 9) rfl rfl rfl rfl rfl rfl a2
       refine za tok 6 ?_
       simp only [go_sem, rL, rE, f8, f9]
       refine zb ⟨rfl, _, _, ⟨rfl, rfl⟩, .p t7⟩
     · skip
       have t10 := eq_false hg26
       refine za tok 6 ?_
       simp only [go_sem, rL, rE]
       refine zb ⟨rfl, _, _, ⟨rfl, rfl⟩, .p t10⟩
   rintro _ _ ⟨rfl, rfl⟩
   refine za tok 1 ?_
   simp only [go_sem, rL]
   refine zb ?_
   simp only [zd, upd, rE, reduceIte, zk, fs_nil]
   refine hK _ _ ?_
   refine zi ?_
   obtain rfl := Option.some.inj h
   exact retA
theorem decode_Canonical.ev (a0 : GSchema) (a1 : List UInt8) (a2 : List UInt8) (r : Bool) (h : decode_Canonical a0 a1 a2 = some r) (σ : Store) : ACalls Tryd.prog 17 [.agg (encGSchema a0), .str a1, .ds true (List.flatMap encB a2) (List.length a2) false] σ (fun r' σ' => r' = .bool r ∧ σ' = σ) :=
 (decode_Canonical.ok a0 a1 a2 r h).c σ
def law12_awake  : Option Bool :=
 (decode_Decode (⟨[97], [(⟨[109], ([] : List GField), ([] : List Int)⟩ : GMessage)], ([] : List GEnumeration), ([] : List GMethod)⟩ : GSchema) [109] [(2 : UInt8), (10 : UInt8)]).bind fun r2 => (if ((decide (r2.2 = 0)) && (decide ((List.length r2.1.fRest : Int) = 1))) = true then (idxL r2.1.fRest 0).bind fun y5 => some (decide (y5.fTag = 1) && (decide (y5.fWire = 0) && (decide (y5.fN = 5) && decide (y5.fB = [])))) else some false).bind fun c5 => (if c5 = true then (decode_Canonical (⟨[97], [(⟨[109], ([] : List GField), ([] : List Int)⟩ : GMessage)], ([] : List GEnumeration), ([] : List GMethod)⟩ : GSchema) [109] [(2 : UInt8), (10 : UInt8)]).bind fun r10 => some r10 else some false).bind fun c9 => some c9
theorem law12_awake.ok  (r : Bool) (h : law12_awake = some r) : ACalls Tryd.prog 10 [] [] (fun r' _ => r' = .bool r) := by
 refine zl (rs := [.tmp 0]) tok Tryd.func10 rfl Tryd.ntmps10 rfl Tryd.call10 (by simp) ?_
 refine zm [] trivial ?_
 unfold law12_awake at h
 refine rg tok [] fun K hK => ?_
 simp only [go_sem, rL]
 refine hK _ _ ?_
 refine rg tok [1] fun K hK => ?_
 simp only [go_sem, rL, rD, rE, rA, rM, evBuildSlice, zeroRun, List.range_succ, List.range_zero, true_and, Nat.reduceMod]
 refine hK _ _ ?_
 refine rc [1, 2, 3] fun K hK => ?_
 have f1 := fun (o0 : AObj) (o1 : AObj) (τ : Store) => conv_same (T := tab) (s := 35) (off := 0) (len := 2) (sz := 1) (nl := true) (t := true) rfl rfl rfl rfl (σ := o0 :: o1 :: .cells 0 [.int .u8 2, .int .u8 10] :: τ) (id := 2) (ver := 0) (by simp only [Store.at_hd, Store.at_tl, if_true]; rfl) ⟨by simp, by decide, rfl⟩
 obtain ⟨r2, hr2, h⟩ := bind_some h
 refine za tok 3 ?_
 simp only [go_sem, rL, rD, rE, rA, rM, evBuildSlice, zeroRun, List.range_succ, List.range_zero, true_and, Nat.reduceMod, f1]
 refine ops_tellS (L := [(1, .op 0 0 0), (8, .agg [.str [97], .ds true (List.flatMap encGMessage [(⟨[109], ([] : List GField), ([] : List Int)⟩ : GMessage)]) (List.length [(⟨[109], ([] : List GField), ([] : List Int)⟩ : GMessage)]) false, .ds true (List.flatMap encGEnumeration ([] : List GEnumeration)) (List.length ([] : List GEnumeration)) false, .ds true (List.flatMap encGMethod ([] : List GMethod)) (List.length ([] : List GMethod)) false]), (10, .ds true (List.flatMap encB [(2 : UInt8), (10 : UInt8)]) (List.length [(2 : UInt8), (10 : UInt8)]) false)]) (τ := [.cells 0 [.str [97], .ds true (List.flatMap encGMessage [(⟨[109], ([] : List GField), ([] : List Int)⟩ : GMessage)]) (List.length [(⟨[109], ([] : List GField), ([] : List Int)⟩ : GMessage)]) false, .ds true (List.flatMap encGEnumeration ([] : List GEnumeration)) (List.length ([] : List GEnumeration)) false, .ds true (List.flatMap encGMethod ([] : List GMethod)) (List.length ([] : List GMethod)) false]]) (.t [1] true) ?_
 refine zf rfl rfl rfl (ACalls.loose (decode_Decode.ev (⟨[97], [(⟨[109], ([] : List GField), ([] : List Int)⟩ : GMessage)], ([] : List GEnumeration), ([] : List GMethod)⟩ : GSchema) [109] [(2 : UInt8), (10 : UInt8)] r2 hr2 _)) ?_
 rintro _ _ ⟨rfl, rfl⟩
 refine za tok 6 ?_
 simp only [go_sem, rL, rD, rE, rA, cellsGTree]
 refine zb ?_
 simp only [zd, upd, rE, reduceIte, zk, fs_nil]
 refine hK _ _ ?_
 refine rc [0] fun K hK => ?_
 refine za tok 3 ?_
 simp only [go_sem, rL, rE]
 refine zn 5 (fun L τ => L = ([(1, .op 0 0 0), (2, .op 1 0 0), (21, .bool ((decide (r2.2 = 0)) && (decide ((List.length r2.1.fRest : Int) = 1))))] : List (Nat × AV)) ∧ τ = ([.cells 0 [.str [97], .ds true (List.flatMap encGMessage [(⟨[109], ([] : List GField), ([] : List Int)⟩ : GMessage)]) (List.length [(⟨[109], ([] : List GField), ([] : List Int)⟩ : GMessage)]) false, .ds true (List.flatMap encGEnumeration ([] : List GEnumeration)) (List.length ([] : List GEnumeration)) false, .ds true (List.flatMap encGMethod ([] : List GMethod)) (List.length ([] : List GMethod)) false], .cells 0 [.int .i64 r2.1.fKind, .int .i64 r2.1.fN, .str r2.1.fS, .ds true (List.flatMap encGEntry r2.1.fEntries) (List.length r2.1.fEntries) false, .ds true (List.flatMap encGRaw r2.1.fRest) (List.length r2.1.fRest) false]] : Store)) ?_ ?_
 · refine ops_if 16 rfl (fun hg16 => ?_) (fun hg16 => ?_)
   · skip
     have t3 := eq_true hg16
     refine za tok 5 ?_
     simp only [go_sem, rL, rE, rA]
     refine zb ⟨rfl, _, _, ⟨rfl, rfl⟩, .p t3⟩
   · skip
     have t4 := eq_false hg16
     refine za tok 5 ?_
     simp only [go_sem, rL, rE]
     refine zb ⟨rfl, _, _, ⟨rfl, rfl⟩, .p t4⟩
 rintro _ _ ⟨rfl, rfl⟩
 refine za tok 1 ?_
 simp only [go_sem, rL, rE]
 obtain ⟨c5, hc5, h⟩ := bind_some h
 refine zn 7 (fun L τ => L = ([(1, .op 0 0 0), (29, .bool c5)] : List (Nat × AV)) ∧ τ = ([.cells 0 [.str [97], .ds true (List.flatMap encGMessage [(⟨[109], ([] : List GField), ([] : List Int)⟩ : GMessage)]) (List.length [(⟨[109], ([] : List GField), ([] : List Int)⟩ : GMessage)]) false, .ds true (List.flatMap encGEnumeration ([] : List GEnumeration)) (List.length ([] : List GEnumeration)) false, .ds true (List.flatMap encGMethod ([] : List GMethod)) (List.length ([] : List GMethod)) false], .cells 0 [.int .i64 r2.1.fKind, .int .i64 r2.1.fN, .str r2.1.fS, .ds true (List.flatMap encGEntry r2.1.fEntries) (List.length r2.1.fEntries) false, .ds true (List.flatMap encGRaw r2.1.fRest) (List.length r2.1.fRest) false]] : Store)) ?_ ?_
 · refine opsWp_at (b := ((decide (r2.2 = 0)) && (decide ((List.length r2.1.fRest : Int) = 1)))) 22 rfl (fun hg22 => ?_) (fun hg22 => ?_)
   · skip
     rw [if_pos hg22] at hc5
     obtain ⟨y6, hy6, hc5⟩ := bind_some hc5
     have f7 := E22.idxS hy6
     have f8 := E22.loadS rfl rfl hy6
     refine za tok 7 ?_
     simp only [go_sem, rL, rD, rE, rA, encGRaw, f7, f8, evEqA, ceqL, ceq]
     obtain rfl := Option.some.inj hc5
     refine zb ⟨rfl, _, _, ⟨rfl, rfl⟩, .b hg22⟩
   · skip
     rw [if_F hg22] at hc5
     refine za tok 7 ?_
     simp only [go_sem, rL, rE]
     obtain rfl := Option.some.inj hc5
     refine zb ⟨rfl, _, _, ⟨rfl, rfl⟩, .b hg22⟩
 rintro _ _ ⟨rfl, rfl⟩
 refine za tok 1 ?_
 simp only [go_sem, rL, rE]
 obtain ⟨c9, hc9, h⟩ := bind_some h
 refine zn 5 (fun L τ => L = ([(35, .bool c9)] : List (Nat × AV)) ∧ τ = ([] : Store)) ?_ ?_
 · refine opsWp_at (b := c5) 30 rfl (fun hg30 => ?_) (fun hg30 => ?_)
   · skip
     rw [if_pos hg30] at hc9
     have f10 := fun (o0 : AObj) (o1 : AObj) (τ : Store) => conv_same (T := tab) (s := 35) (off := 0) (len := 2) (sz := 1) (nl := true) (t := true) rfl rfl rfl rfl (σ := o0 :: o1 :: .cells 0 [.int .u8 2, .int .u8 10] :: τ) (id := 2) (ver := 0) (by simp only [Store.at_hd, Store.at_tl, if_true]; rfl) ⟨by simp, by decide, rfl⟩
     obtain ⟨r11, hr11, hc9⟩ := bind_some hc9
     refine za tok 3 ?_
     simp only [go_sem, rL, rD, rE, rA, rM, evBuildSlice, zeroRun, List.range_succ, List.range_zero, true_and, Nat.reduceMod, f10]
     refine zf rfl rfl rfl (decode_Canonical.ok (⟨[97], [(⟨[109], ([] : List GField), ([] : List Int)⟩ : GMessage)], ([] : List GEnumeration), ([] : List GMethod)⟩ : GSchema) [109] [(2 : UInt8), (10 : UInt8)] r11 hr11).ld ?_
     rintro _ _ ⟨rfl, rfl⟩
     refine za tok 1 ?_
     simp only [go_sem, rL, rE]
     obtain rfl := Option.some.inj hc9
     refine zb ⟨rfl, _, _, ⟨rfl, rfl⟩, .told [] false (by decide) (by simp) (by first | rfl | simp) (by first | rfl | (simp only [← List.flatMap_append, ← List.length_append]; simp only [go_sem, rL, rD, rE, rA, rM, rS, reduceIte, reduceCtorEq, push_cast, if_true, List.drop_zero, Nat.zero_add, List.map_cons, List.map_nil, List.map_append, Bool.or_true, Bool.or_false, Bool.and_true, Bool.and_false, Bool.not_true, Bool.not_false, TLS, encGMessage, and_self, zv]; done) | (simp only [go_sem, rL, rD, rE, rA, rM, rS, reduceIte, reduceCtorEq, push_cast, if_true, List.drop_zero, Nat.zero_add, List.map_cons, List.map_nil, List.map_append, Bool.or_true, Bool.or_false, Bool.and_true, Bool.and_false, Bool.not_true, Bool.not_false, TLS, encB, encI, encS, encBo, encK, setI_length, List.flatMap_append, List.flatMap_cons, List.flatMap_nil, List.append_nil, List.nil_append, List.length_append, List.length_cons, List.length_nil, Nat.zero_add, List.append_assoc, List.cons_append, Nat.add_assoc, encGMessage, and_self, zv] <;> first | rfl | (and_intros <;> rfl))) (by first | rfl | (simp only [← List.flatMap_append, ← List.length_append]; simp only [go_sem, rL, rD, rE, rA, rM, rS, reduceIte, reduceCtorEq, push_cast, hg30, if_true, List.drop_zero, Nat.zero_add, List.map_cons, List.map_nil, List.map_append, Bool.or_true, Bool.or_false, Bool.and_true, Bool.and_false, Bool.not_true, Bool.not_false, TLS, encGMessage, and_self, zv]; done) | (simp only [go_sem, rE, push_cast, hg30, if_true, TLS, List.flatMap_nil, List.append_nil, List.length_nil, encGMessage, and_self] <;> first | rfl | (and_intros <;> rfl)))⟩
   · skip
     rw [if_F hg30] at hc9
     refine za tok 5 ?_
     simp only [go_sem, rL, rE, true_and]
     obtain rfl := Option.some.inj hc9
     refine zb ⟨rfl, _, _, ⟨rfl, rfl⟩, .told [] false (by decide) (by simp) (by first | rfl | simp) (by first | rfl | (simp only [← List.flatMap_append, ← List.length_append]; simp only [go_sem, rL, rD, rE, rA, rM, rS, reduceIte, reduceCtorEq, push_cast, if_true, List.drop_zero, Nat.zero_add, List.map_cons, List.map_nil, List.map_append, Bool.or_true, Bool.or_false, Bool.and_true, Bool.and_false, Bool.not_true, Bool.not_false, TLS, encGMessage, and_self, zv]; done) | (simp only [go_sem, rL, rD, rE, rA, rM, rS, reduceIte, reduceCtorEq, push_cast, if_true, List.drop_zero, Nat.zero_add, List.map_cons, List.map_nil, List.map_append, Bool.or_true, Bool.or_false, Bool.and_true, Bool.and_false, Bool.not_true, Bool.not_false, TLS, encB, encI, encS, encBo, encK, setI_length, List.flatMap_append, List.flatMap_cons, List.flatMap_nil, List.append_nil, List.nil_append, List.length_append, List.length_cons, List.length_nil, Nat.zero_add, List.append_assoc, List.cons_append, Nat.add_assoc, encGMessage, and_self, zv] <;> first | rfl | (and_intros <;> rfl))) (by first | rfl | (simp only [← List.flatMap_append, ← List.length_append]; simp only [go_sem, rL, rD, rE, rA, rM, rS, reduceIte, reduceCtorEq, push_cast, hg30, if_true, List.drop_zero, Nat.zero_add, List.map_cons, List.map_nil, List.map_append, Bool.or_true, Bool.or_false, Bool.and_true, Bool.and_false, Bool.not_true, Bool.not_false, TLS, encGMessage, and_self, zv]; done) | (simp only [go_sem, rE, push_cast, hg30, if_true, TLS, List.flatMap_nil, List.append_nil, List.length_nil, encGMessage, and_self] <;> first | rfl | (and_intros <;> rfl)))⟩
 rintro _ _ ⟨rfl, rfl⟩
 refine za tok 1 ?_
 simp only [go_sem, rL]
 refine zb ?_
 simp only [zd, upd, rE, reduceIte, zk, fs_nil]
 refine hK _ _ ?_
 refine zi ?_
 obtain rfl := Option.some.inj h
 exact retA
theorem law12_awake.ev  (r : Bool) (h : law12_awake = some r) (σ : Store) : ACalls Tryd.prog 10 [] σ (fun r' σ' => r' = .bool r ∧ σ' = σ) :=
 (law12_awake.ok  r h).c σ
def law00_Raws (a0 : List GRaw) : Option (List GRaw) :=
 (room (List.length a0) 40).bind fun _u2 => some a0
theorem law00_Raws.own (a0 : List GRaw) (r : List GRaw) (h : law00_Raws a0 = some r) : ACalls Tryd.prog 12 [.ds true (List.flatMap encGRaw a0) (List.length a0) false] [] (fun r' σ' => r' = .os true 4 0 0 0 (List.length r) false ∧ σ' = [.cells 0 (List.flatMap encGRaw r)]) := by
 refine ACalls.own0 (by simp only [push_cast]) ?_
 refine acalls_own (rs := [.tmp 2]) tok Tryd.func12 rfl Tryd.ntmps12 rfl Tryd.call12 (by simp) ?_
 refine zm [(0, .ds true (List.flatMap encGRaw a0) (List.length a0) false)] ⟨rfl, trivial⟩ ?_
 unfold law00_Raws at h
 refine rg tok [0] fun K hK => ?_
 simp only [go_sem, rL, reduceCtorEq]
 refine hK _ _ ?_
 have f1 := fun nl tt σ => srcCells_enc E22.len a0 nl tt σ
 obtain ⟨_u2, hu2, h⟩ := bind_some h
 have gu2 := room_some hu2
 refine rg tok [2] fun K hK => ?_
 simp only [go_sem, rL, rE, reduceCtorEq, evAppend, evAppendTo, lenOfAV, true_and, f1, gu2, ones_all, List.nil_append, List.length_nil, Nat.zero_add]
 refine hK _ _ ?_
 refine awp_tellS (L := [(2, .os true 4 0 0 0 (List.length a0) false)]) (τ := [.cells 0 (List.flatMap encGRaw a0)]) .s ?_
 refine zi ?_
 obtain rfl := Option.some.inj h
 simp only [retQ, resAll, resOne, resAV, exists_eq_left', go_sem]
 refine ⟨0, 0, by simp, ?_, ?_⟩
 · first | rfl | (simp only [go_sem, rL, rD, rE, rA, rM, rS, reduceIte, reduceCtorEq, push_cast, if_true, List.drop_zero, Nat.zero_add, List.map_cons, List.map_nil, List.map_append, Bool.or_true, Bool.or_false, Bool.and_true, Bool.and_false, Bool.not_true, Bool.not_false, zv, encGRaw] <;> rfl)
 · first | rfl | (simp only [go_sem, push_cast, List.map_nil, zv] <;> rfl)
theorem law00_Raws.ok (a0 : List GRaw) (r : List GRaw) (h : law00_Raws a0 = some r) : ACalls Tryd.prog 12 [.ds true (List.flatMap encGRaw a0) (List.length a0) false] [] (fun r' _ => r' = .ds true (List.flatMap encGRaw r) (List.length r) false) :=
 (law00_Raws.own a0 r h).ownData (zo E22.len r) (by simp only [push_cast])
theorem law00_Raws.ev (a0 : List GRaw) (r : List GRaw) (h : law00_Raws a0 = some r) (σ : Store) : ACalls Tryd.prog 12 [.ds true (List.flatMap encGRaw a0) (List.length a0) false] σ (fun r' σ' => r' = .ds true (List.flatMap encGRaw r) (List.length r) false ∧ σ' = σ) :=
 (law00_Raws.ok a0 r h).c σ
def ref09_depth.l18 (self_ref09_depth : GTree → Int → Option Int) (a1 : Int) (x7 : Int) (rec10 : Int → Int → Option Int) : List GTree → Int → Int → Option Int
 | [], x15, x14 => (rec10 (x7 + 1) x14)
 | y18 :: q18, x15, x14 => (self_ref09_depth y18 (IntKind.i64.wrap (a1 + 1))).bind fun r30 => ((ref09_depth.l18 self_ref09_depth a1 x7 rec10 q18) (x15 + 1) (if x14 < r30 then r30 else x14))
def ref09_depth.l10 (self_ref09_depth : GTree → Int → Option Int) (a1 : Int) : List GEntry → Int → Int → Option Int
 | [], x7, x6 => some (if 101 < IntKind.i64.wrap (x6 + 1) then 101 else IntKind.i64.wrap (x6 + 1))
 | y10 :: q10, x7, x6 => (ref09_depth.l18 self_ref09_depth a1 x7 (ref09_depth.l10 self_ref09_depth a1 q10) y10.fTrees 0 x6)
def ref09_depth.body (self_ref09_depth : GTree → Int → Option Int) (a0 : GTree) (a1 : Int) : Option Int :=
 (if ((!(decide (a0.fKind = 3))) || (decide (100 < a1))) = true then some 0 else (ref09_depth.l10 self_ref09_depth a1 a0.fEntries 0 0))
theorem ref09_depth.step (self_ref09_depth : GTree → Int → Option Int) (ih_ref09_depth : ∀ (a0 : GTree) (a1 : Int) (r : Int), self_ref09_depth a0 a1 = some r → ACalls Tryd.prog 40 [.agg (cellsGTree a0), .int .i64 a1] [] (fun r' _ => r' = .int .i64 r)) (a0 : GTree) (a1 : Int) (r : Int) (h : ref09_depth.body self_ref09_depth a0 a1 = some r) : ACalls Tryd.prog 40 [.agg (cellsGTree a0), .int .i64 a1] [] (fun r' _ => r' = .int .i64 r) := by
 have ev_ref09_depth := fun a0 a1 r h σ => (ih_ref09_depth a0 a1 r h).c σ
 refine zl (rs := [.tmp 4]) tok Tryd.func40 rfl Tryd.ntmps40 rfl Tryd.call40 (by simp) ?_
 refine zm [(0, .agg (cellsGTree a0)), (1, .int .i64 a1)] ⟨rfl, rfl, trivial⟩ ?_
 unfold ref09_depth.body at h
 refine rg tok [1, 2] fun K hK => ?_
 simp only [go_sem, rL, rE, rA, reduceCtorEq, cellsGTree]
 refine hK _ _ ?_
 refine ze fun Z1 hZ1 => ?_
 refine rc [1, 2, 14] fun K hK => ?_
 refine za tok 4 ?_
 simp only [go_sem, rL, rE, rA]
 refine zn 3 (fun L τ => L = ([(1, .int .i64 a1), (2, .op 0 0 0), (14, .bool ((!(decide (a0.fKind = 3))) || (decide (100 < a1))))] : List (Nat × AV)) ∧ τ = ([.cells 0 [.int .i64 a0.fKind, .int .i64 a0.fN, .str a0.fS, .ds true (List.flatMap encGEntry a0.fEntries) (List.length a0.fEntries) false, .ds true (List.flatMap encGRaw a0.fRest) (List.length a0.fRest) false]] : Store)) ?_ ?_
 · refine ops_if 11 rfl (fun hg11 => ?_) (fun hg11 => ?_)
   · skip
     have t2 := eq_false hg11
     refine za tok 3 ?_
     simp only [go_sem, rL, rE]
     refine zb ⟨rfl, _, _, ⟨rfl, rfl⟩, .p t2⟩
   · skip
     have t3 := eq_true hg11
     refine za tok 3 ?_
     simp only [go_sem, rL, rE]
     refine zb ⟨rfl, _, _, ⟨rfl, rfl⟩, .p t3⟩
 rintro _ _ ⟨rfl, rfl⟩
 refine zb ?_
 simp only [zd, rE, reduceIte, zk, fs_nil]
 refine hK _ _ ?_
 refine zw (b := ((!(decide (a0.fKind = 3))) || (decide (100 < a1)))) rfl (fun hc4 => ?_) (fun hc4 => ?_)
 · skip
   rw [if_pos hc4] at h
   refine rg tok [4] fun K hK => ?_
   simp only [go_sem, rL, rE]
   refine hK _ _ ?_
   refine zi ?_
   obtain rfl := Option.some.inj h
   exact retA
 · skip
   rw [if_F hc4] at h
   refine zh ?_
   refine hZ1 _ _ ?_
   refine rg tok [1, 2, 5] fun K hK => ?_
   simp only [go_sem, rL, rE]
   refine hK _ _ ?_
   refine ze fun Z5 hZ5 => ?_
   refine rg tok [1, 2, 5, 6] fun K hK => ?_
   simp only [go_sem, rL, rE]
   refine hK _ _ ?_
   refine zj ?_
   refine awp_deepS 0 rfl fun hb10 => ?_
   replace hb10 : List.length a0.fEntries ≤ 9223372036854775807 := hb10.2.2.2.1.1
   refine zt (fun m L τ => ∃ (p10 q10 : List GEntry) (x7 : Int) (x6 : Int), m = List.length q10 ∧ L = ([(1, .int .i64 a1), (2, .op 0 0 0), (5, .int .i64 x6), (6, .int .i64 x7)] : List (Nat × AV)) ∧ τ = ([.cells 0 [.int .i64 a0.fKind, .int .i64 a0.fN, .str a0.fS, .ds true (List.flatMap encGEntry a0.fEntries) (List.length a0.fEntries) false, .ds true (List.flatMap encGRaw a0.fRest) (List.length a0.fRest) false]] : Store) ∧ a0.fEntries = p10 ++ q10 ∧ x7 = (List.length p10 : Int) ∧ ref09_depth.l10 self_ref09_depth a1 q10 x7 x6 = some r) _ ⟨[], a0.fEntries, 0, 0, rfl, rfl, rfl, rfl, rfl, h⟩ .s ?_
   rintro m L τ ⟨p10, q10, x7, x6, rfl, rfl, rfl, hE10, hi10, h⟩
   rcases q10 with _ | ⟨y10, q10⟩
   · have hz10 := zip_nil hE10 hi10
     simp only [ref09_depth.l10] at h
     refine ze fun Z11 hZ11 => ?_
     refine rg tok [1, 2, 5, 6, 19] fun K hK => ?_
     simp only [go_sem, rL, rE, rA, hz10]
     refine hK _ _ ?_
     refine zp rfl ?_
     refine zx ?_
     refine hZ5 _ _ ?_
     refine rg tok [4] fun K hK => ?_
     simp only [go_sem, rL, rE, evFold, foldO, evMin2]
     refine hK _ _ ?_
     refine zi ?_
     obtain rfl := Option.some.inj h
     exact retA
   · obtain ⟨hz10, hw10, hx10, hE'10, hi'10⟩ := zip_cons hE10 hi10 hb10
     simp only [ref09_depth.l10] at h
     refine ze fun Z12 hZ12 => ?_
     refine rg tok [1, 2, 5, 6, 19] fun K hK => ?_
     simp only [go_sem, rL, rE, rA, hz10]
     refine hK _ _ ?_
     refine zr rfl ?_
     refine zh ?_
     refine hZ12 _ _ ?_
     refine ze fun Z13 hZ13 => ?_
     refine zj ?_
     refine rg tok [1, 2, 5, 6, 7] fun K hK => ?_
     simp only [go_sem, rL, rE]
     refine hK _ _ ?_
     refine zj ?_
     refine awp_deepS 0 rfl fun hb18 => ?_
     replace hb18 := deepL_idx hb18.2.2.2.1.2 hx10
     rw [zy] at hb18
     replace hb18 : List.length y10.fTrees ≤ 9223372036854775807 := hb18.2.1.1
     refine zt (fun m L τ => ∃ (p18 q18 : List GTree) (x15 : Int) (x14 : Int), m = List.length q18 ∧ L = ([(1, .int .i64 a1), (2, .op 0 0 0), (5, .int .i64 x14), (6, .int .i64 x7), (7, .int .i64 x15)] : List (Nat × AV)) ∧ τ = ([.cells 0 [.int .i64 a0.fKind, .int .i64 a0.fN, .str a0.fS, .ds true (List.flatMap encGEntry a0.fEntries) (List.length a0.fEntries) false, .ds true (List.flatMap encGRaw a0.fRest) (List.length a0.fRest) false]] : Store) ∧ y10.fTrees = p18 ++ q18 ∧ x15 = (List.length p18 : Int) ∧ ref09_depth.l18 self_ref09_depth a1 x7 (ref09_depth.l10 self_ref09_depth a1 q10) q18 x15 x14 = some r) _ ⟨[], y10.fTrees, 0, x6, rfl, rfl, rfl, rfl, rfl, h⟩ .s ?_
     rintro m L τ ⟨p18, q18, x15, x14, rfl, rfl, rfl, hE18, hi18, h⟩
     rcases q18 with _ | ⟨y18, q18⟩
     · have hz18 := zip_nil hE18 hi18
       simp only [ref09_depth.l18] at h
       refine ze fun Z19 hZ19 => ?_
       have f20 := E40.idxS hx10
       have f21 := E40.fldS (f := 59) rfl rfl hx10 (o := 1) (by decide)
       refine rg tok [1, 2, 5, 6, 7, 30] fun K hK => ?_
       simp only [go_sem, rL, rE, rA, cellsGEntry, zy, hz18, f20, f21]
       refine hK _ _ ?_
       refine zp rfl ?_
       refine zx ?_
       refine hZ13 _ _ ?_
       refine rgE tok [1, 2, 5, 6] fun K hK => ?_
       simp only [go_sem, rL, rE, hw10]
       refine hK _ _ ?_
       exact ⟨_, _, _, Nat.lt_succ_self q10.length, ⟨p10 ++ [y10], q10, x7 + 1, x14, rfl, rfl, rfl, hE'10, hi'10, h⟩, .s⟩
     · obtain ⟨hz18, hw18, hx18, hE'18, hi'18⟩ := zip_cons hE18 hi18 hb18
       simp only [ref09_depth.l18] at h
       refine ze fun Z22 hZ22 => ?_
       have f23 := E40.idxS hx10
       have f24 := E40.fldS (f := 59) rfl rfl hx10 (o := 1) (by decide)
       refine rg tok [1, 2, 5, 6, 7, 30] fun K hK => ?_
       simp only [go_sem, rL, rE, rA, cellsGEntry, zy, hz18, f23, f24]
       refine hK _ _ ?_
       refine zr rfl ?_
       refine zh ?_
       refine hZ22 _ _ ?_
       refine ze fun Z25 hZ25 => ?_
       refine zj ?_
       refine rcE [1, 2, 5, 6, 7] fun K hK => ?_
       have f26 := E40.idxS hx10
       have f27 := E40.fldS (f := 59) rfl rfl hx10 (o := 1) (by decide)
       have f28 := E59.idxS hx18
       have f29 := E59.loadS rfl rfl hx18
       obtain ⟨r30, hr30, h⟩ := bind_some h
       refine za tok 10 ?_
       simp only [go_sem, rL, rE, rA, cellsGEntry, cellsGTree, zy, encGTree_eq, f26, f27, f28, f29]
       refine za tok 2 ?_
       simp only [go_sem, rL, rE]
       refine zf rfl rfl rfl (ev_ref09_depth y18 (IntKind.i64.wrap (a1 + 1)) r30 hr30 _) ?_
       rintro _ _ ⟨rfl, rfl⟩
       refine za tok 2 ?_
       simp only [go_sem, rL, rE, evFold, foldO, evMax2]
       refine zb ?_
       simp only [zd, upd, rE, reduceIte, zk, fs_nil]
       refine hK _ _ ?_
       refine hZ25 _ _ ?_
       refine rgE tok [1, 2, 5, 6, 7] fun K hK => ?_
       simp only [go_sem, rL, rE, hw18]
       refine hK _ _ ?_
       exact ⟨_, _, _, Nat.lt_succ_self q18.length, ⟨p18 ++ [y18], q18, x15 + 1, (if x14 < r30 then r30 else x14), rfl, rfl, rfl, hE'18, hi'18, h⟩, .s⟩
def ref09_depth : Nat → GTree → Int → Option Int
 | 0, _, _ => none
 | k + 1, a0, a1 => ref09_depth.body (ref09_depth k) a0 a1
theorem ref09_depth.all (k : Nat) : (∀ (a0 : GTree) (a1 : Int) (r : Int), ref09_depth k a0 a1 = some r → ACalls Tryd.prog 40 [.agg (cellsGTree a0), .int .i64 a1] [] (fun r' _ => r' = .int .i64 r)) := by
 induction k with
 | zero => exact (fun a0 a1 r h => by simp only [ref09_depth] at h; cases h)
 | succ k ih => exact (fun a0 a1 r h => ref09_depth.step _ ih a0 a1 r (by simpa only [ref09_depth] using h))
theorem ref09_depth.ev (k : Nat) (a0 : GTree) (a1 : Int) (r : Int) (h : ref09_depth k a0 a1 = some r) (σ : Store) : ACalls Tryd.prog 40 [.agg (cellsGTree a0), .int .i64 a1] σ (fun r' σ' => r' = .int .i64 r ∧ σ' = σ) :=
 ((ref09_depth.all k) a0 a1 r h).c σ
def ref09_Depth (a0 : GTree) : Option Int :=
 (ref09_depth rounds a0 0).bind fun r1 => some r1
theorem ref09_Depth.ok (a0 : GTree) (r : Int) (h : ref09_Depth a0 = some r) : ACalls Tryd.prog 21 [.agg (cellsGTree a0)] [] (fun r' _ => r' = .int .i64 r) := by
 refine zl (rs := [.tmp 2]) tok Tryd.func21 rfl Tryd.ntmps21 rfl Tryd.call21 (by simp) ?_
 refine zm [(0, .agg (cellsGTree a0))] ⟨rfl, trivial⟩ ?_
 unfold ref09_Depth at h
 refine rg tok [1] fun K hK => ?_
 simp only [go_sem, rL, rE, rA, reduceCtorEq, cellsGTree]
 refine hK _ _ ?_
 refine rc [2] fun K hK => ?_
 obtain ⟨r1, hr1, h⟩ := bind_some h
 refine za tok 1 ?_
 simp only [go_sem, rL, rD, rA]
 refine zf rfl rfl rfl (ref09_depth.ev rounds a0 0 r1 hr1 _) ?_
 rintro _ _ ⟨rfl, rfl⟩
 refine za tok 1 ?_
 simp only [go_sem, rL, rE]
 refine zb ?_
 simp only [zd, upd, rE, reduceIte, zk, fs_nil]
 refine hK _ _ ?_
 refine zi ?_
 obtain rfl := Option.some.inj h
 exact retA
theorem ref09_Depth.ev (a0 : GTree) (r : Int) (h : ref09_Depth a0 = some r) (σ : Store) : ACalls Tryd.prog 21 [.agg (cellsGTree a0)] σ (fun r' σ' => r' = .int .i64 r ∧ σ' = σ) :=
 (ref09_Depth.ok a0 r h).c σ
def ref04_Check (a0 : GRaw) : Bool :=
 (if ((decide (a0.fTag < 1)) || (decide (500 < a0.fTag))) = true then false else (if a0.fWire = 0 then decide (a0.fB = []) else (((decide (a0.fWire = 1)) && (decide (a0.fN = 0))) && (decide ((List.length a0.fB : Int) ≤ 4096)))))
theorem ref04_Check.ok (a0 : GRaw) (r : Bool) (h : ref04_Check a0 = r) : ACalls Tryd.prog 93 [.agg (encGRaw a0)] [] (fun r' _ => r' = .bool r) := by
 refine zl (rs := [.tmp 2]) tok Tryd.func93 rfl Tryd.ntmps93 rfl Tryd.call93 (by simp) ?_
 refine zm [(0, .agg (encGRaw a0))] ⟨rfl, trivial⟩ ?_
 unfold ref04_Check at h
 refine rg tok [1] fun K hK => ?_
 simp only [go_sem, rL, rE, rA, reduceCtorEq, encGRaw]
 refine hK _ _ ?_
 refine ze fun Z1 hZ1 => ?_
 refine rc [1, 10] fun K hK => ?_
 refine za tok 4 ?_
 simp only [go_sem, rL, rE, rA]
 refine zn 4 (fun L τ => L = ([(1, .op 0 0 0), (10, .bool ((decide (a0.fTag < 1)) || (decide (500 < a0.fTag))))] : List (Nat × AV)) ∧ τ = ([.cells 0 [.int .i64 a0.fTag, .int .i64 a0.fWire, .int .i64 a0.fN, .str a0.fB]] : Store)) ?_ ?_
 · refine ops_if 6 rfl (fun hg6 => ?_) (fun hg6 => ?_)
   · skip
     have t2 := eq_true hg6
     refine za tok 4 ?_
     simp only [go_sem, rL, rE]
     refine zb ⟨rfl, _, _, ⟨rfl, rfl⟩, .p t2⟩
   · skip
     have t3 := eq_false hg6
     refine za tok 4 ?_
     simp only [go_sem, rL, rE, rA]
     refine zb ⟨rfl, _, _, ⟨rfl, rfl⟩, .p t3⟩
 rintro _ _ ⟨rfl, rfl⟩
 refine zb ?_
 simp only [zd, rE, reduceIte, zk, fs_nil]
 refine hK _ _ ?_
 refine zw (b := ((decide (a0.fTag < 1)) || (decide (500 < a0.fTag)))) rfl (fun hc4 => ?_) (fun hc4 => ?_)
 · skip
   rw [if_pos hc4] at h
   refine rg tok [2] fun K hK => ?_
   simp only [go_sem, rL, rE]
   refine hK _ _ ?_
   refine zi ?_
   obtain rfl := h
   exact retA
 · skip
   rw [if_F hc4] at h
   refine zh ?_
   refine hZ1 _ _ ?_
   refine ze fun Z5 hZ5 => ?_
   refine rg tok [1, 13] fun K hK => ?_
   simp only [go_sem, rL, rE, rA]
   refine hK _ _ ?_
   refine awp_if rfl (fun hc6 => ?_) (fun hc6 => ?_)
   · skip
     rw [if_pos hc6] at h
     have t7 := eq_true hc6
     refine rg tok [2] fun K hK => ?_
     simp only [go_sem, rL, rE, rA, t7]
     refine hK _ _ ?_
     refine zi ?_
     obtain rfl := h
     exact retA
   · skip
     rw [if_neg hc6] at h
     have t8 := eq_false hc6
     refine zh ?_
     refine hZ5 _ _ ?_
     refine rc [2] fun K hK => ?_
     refine za tok 4 ?_
     simp only [go_sem, rL, rE, rA, t8]
     refine zn 4 (fun L τ => L = ([(1, .op 0 0 0), (24, .bool ((decide (a0.fWire = 1)) && (decide (a0.fN = 0))))] : List (Nat × AV)) ∧ τ = ([.cells 0 [.int .i64 a0.fTag, .int .i64 a0.fWire, .int .i64 a0.fN, .str a0.fB]] : Store)) ?_ ?_
     · refine ops_if 20 rfl (fun hg20 => ?_) (fun hg20 => ?_)
       · skip
         have t9 := eq_true hg20
         refine za tok 4 ?_
         simp only [go_sem, rL, rE, rA]
         refine zb ⟨rfl, _, _, ⟨rfl, rfl⟩, .p t9⟩
       · skip
         have t10 := eq_false hg20
         refine za tok 4 ?_
         simp only [go_sem, rL, rE]
         refine zb ⟨rfl, _, _, ⟨rfl, rfl⟩, .p t10⟩
     rintro _ _ ⟨rfl, rfl⟩
     refine za tok 1 ?_
     simp only [go_sem, rL, rE]
     refine zn 5 (fun L τ => L = ([(30, .bool (((decide (a0.fWire = 1)) && (decide (a0.fN = 0))) && (decide ((List.length a0.fB : Int) ≤ 4096))))] : List (Nat × AV)) ∧ τ = ([.cells 0 [.int .i64 a0.fTag, .int .i64 a0.fWire, .int .i64 a0.fN, .str a0.fB]] : Store)) ?_ ?_
     · refine opsWp_at (b := ((decide (a0.fWire = 1)) && (decide (a0.fN = 0)))) 25 rfl (fun hg25 => ?_) (fun hg25 => ?_)
       · skip
         refine za tok 5 ?_
         simp only [go_sem, rL, rE, rA]
         refine zb ⟨rfl, _, _, ⟨rfl, rfl⟩, .b hg25⟩
       · skip
         refine za tok 5 ?_
         simp only [go_sem, rL, rE]
         refine zb ⟨rfl, _, _, ⟨rfl, rfl⟩, .b hg25⟩
     rintro _ _ ⟨rfl, rfl⟩
     refine za tok 1 ?_
     simp only [go_sem, rL]
     refine zb ?_
     simp only [zd, upd, rE, reduceIte, zk, fs_nil]
     refine hK _ _ ?_
     refine zi ?_
     obtain rfl := h
     exact retA
theorem ref04_Check.ev (a0 : GRaw) (r : Bool) (h : ref04_Check a0 = r) (σ : Store) : ACalls Tryd.prog 93 [.agg (encGRaw a0)] σ (fun r' σ' => r' = .bool r ∧ σ' = σ) :=
 (ref04_Check.ok a0 r h).c σ
def ref09_Has.l4 (a1 : Int) : List GEntry → Int → Bool
 | [], x2 => false
 | y4 :: q4, x2 => (if y4.fTag = a1 then true else ((ref09_Has.l4 a1 q4) (x2 + 1)))
def ref09_Has (a0 : GTree) (a1 : Int) : Bool :=
 (ref09_Has.l4 a1 a0.fEntries 0)
theorem ref09_Has.ok (a0 : GTree) (a1 : Int) (r : Bool) (h : ref09_Has a0 a1 = r) : ACalls Tryd.prog 115 [.agg (cellsGTree a0), .int .i64 a1] [] (fun r' _ => r' = .bool r) := by
 refine zl (rs := [.tmp 4]) tok Tryd.func115 rfl Tryd.ntmps115 rfl Tryd.call115 (by simp) ?_
 refine zm [(0, .agg (cellsGTree a0)), (1, .int .i64 a1)] ⟨rfl, rfl, trivial⟩ ?_
 unfold ref09_Has at h
 refine rg tok [1, 2] fun K hK => ?_
 simp only [go_sem, rL, rE, rA, reduceCtorEq, cellsGTree]
 refine hK _ _ ?_
 refine ze fun Z1 hZ1 => ?_
 refine rg tok [1, 2, 5] fun K hK => ?_
 simp only [go_sem, rL, rE]
 refine hK _ _ ?_
 refine zj ?_
 refine awp_deepS 0 rfl fun hb4 => ?_
 replace hb4 : List.length a0.fEntries ≤ 9223372036854775807 := hb4.2.2.2.1.1
 refine zt (fun m L τ => ∃ (p4 q4 : List GEntry) (x2 : Int), m = List.length q4 ∧ L = ([(1, .int .i64 a1), (2, .op 0 0 0), (5, .int .i64 x2)] : List (Nat × AV)) ∧ τ = ([.cells 0 [.int .i64 a0.fKind, .int .i64 a0.fN, .str a0.fS, .ds true (List.flatMap encGEntry a0.fEntries) (List.length a0.fEntries) false, .ds true (List.flatMap encGRaw a0.fRest) (List.length a0.fRest) false]] : Store) ∧ a0.fEntries = p4 ++ q4 ∧ x2 = (List.length p4 : Int) ∧ ref09_Has.l4 a1 q4 x2 = r) _ ⟨[], a0.fEntries, 0, rfl, rfl, rfl, rfl, rfl, h⟩ .s ?_
 rintro m L τ ⟨p4, q4, x2, rfl, rfl, rfl, hE4, hi4, h⟩
 rcases q4 with _ | ⟨y4, q4⟩
 · have hz4 := zip_nil hE4 hi4
   simp only [ref09_Has.l4] at h
   refine ze fun Z5 hZ5 => ?_
   refine rg tok [1, 2, 5, 10] fun K hK => ?_
   simp only [go_sem, rL, rE, rA, hz4]
   refine hK _ _ ?_
   refine zp rfl ?_
   refine zx ?_
   refine hZ1 _ _ ?_
   refine rg tok [4] fun K hK => ?_
   simp only [go_sem, rL, rE]
   refine hK _ _ ?_
   refine zi ?_
   obtain rfl := h
   exact retA
 · obtain ⟨hz4, hw4, hx4, hE'4, hi'4⟩ := zip_cons hE4 hi4 hb4
   simp only [ref09_Has.l4] at h
   refine ze fun Z6 hZ6 => ?_
   refine rg tok [1, 2, 5, 10] fun K hK => ?_
   simp only [go_sem, rL, rE, rA, hz4]
   refine hK _ _ ?_
   refine zr rfl ?_
   refine zh ?_
   refine hZ6 _ _ ?_
   refine ze fun Z7 hZ7 => ?_
   refine zj ?_
   have f8 := E40.idxS hx4
   have f9 := E40.fldS0 (f := 3) rfl rfl hx4
   refine rg tok [1, 2, 5, 20] fun K hK => ?_
   simp only [go_sem, rL, rE, rA, cellsGEntry, zy, f8, f9]
   refine hK _ _ ?_
   refine awp_if rfl (fun hc10 => ?_) (fun hc10 => ?_)
   · skip
     rw [if_pos hc10] at h
     have t11 := eq_true hc10
     refine rg tok [4] fun K hK => ?_
     simp only [go_sem, rL, rE, t11]
     refine hK _ _ ?_
     refine zi ?_
     obtain rfl := h
     exact retA
   · skip
     rw [if_neg hc10] at h
     have t12 := eq_false hc10
     refine zh ?_
     refine hZ7 _ _ ?_
     refine rgE tok [1, 2, 5] fun K hK => ?_
     simp only [go_sem, rL, rE, hw4, t12]
     refine hK _ _ ?_
     exact ⟨_, _, _, Nat.lt_succ_self q4.length, ⟨p4 ++ [y4], q4, x2 + 1, rfl, rfl, rfl, hE'4, hi'4, h⟩, .s⟩
theorem ref09_Has.ev (a0 : GTree) (a1 : Int) (r : Bool) (h : ref09_Has a0 a1 = r) (σ : Store) : ACalls Tryd.prog 115 [.agg (cellsGTree a0), .int .i64 a1] σ (fun r' σ' => r' = .bool r ∧ σ' = σ) :=
 (ref09_Has.ok a0 a1 r h).c σ
def ref04_Rising.l4 (a0 : List GRaw) : Nat → Int → Option Bool
 | 0, _ => none
 | k4 + 1, x2 => (if x2 < (List.length a0 : Int) then (idxL a0 x2).bind fun y9 => (idxL a0 (IntKind.i64.wrap (x2 - 1))).bind fun y12 => (if y9.fTag < y12.fTag then some false else ((ref04_Rising.l4 a0 k4) (IntKind.i64.wrap (x2 + 1)))) else some true)
def ref04_Rising (a0 : List GRaw) : Option Bool :=
 (ref04_Rising.l4 a0 rounds 1)
theorem ref04_Rising.ok (a0 : List GRaw) (r : Bool) (h : ref04_Rising a0 = some r) : ACalls Tryd.prog 116 [.ds true (List.flatMap encGRaw a0) (List.length a0) false] [] (fun r' _ => r' = .bool r) := by
 refine zl (rs := [.tmp 2]) tok Tryd.func116 rfl Tryd.ntmps116 rfl Tryd.call116 (by simp) ?_
 refine zm [(0, .ds true (List.flatMap encGRaw a0) (List.length a0) false)] ⟨rfl, trivial⟩ ?_
 unfold ref04_Rising at h
 refine rg tok [0] fun K hK => ?_
 simp only [go_sem, rL, reduceCtorEq]
 refine hK _ _ ?_
 refine ze fun Z1 hZ1 => ?_
 refine rg tok [0, 3] fun K hK => ?_
 simp only [go_sem, rL, reduceCtorEq]
 refine hK _ _ ?_
 refine zj ?_
 refine zt (fun m L τ => ∃ (k4 : Nat) (x2 : Int), m = 0 + k4 ∧ L = ([(0, .ds true (List.flatMap encGRaw a0) (List.length a0) false), (3, .int .i64 x2)] : List (Nat × AV)) ∧ τ = ([] : Store) ∧ ref04_Rising.l4 a0 k4 x2 = some r) _ ⟨rounds, 1, rfl, rfl, rfl, h⟩ .s ?_
 rintro m L τ ⟨k4, x2, rfl, rfl, rfl, h⟩
 rcases k4 with _ | k4
 · cases h
 · simp only [ref04_Rising.l4] at h
   refine ze fun Z5 hZ5 => ?_
   refine rg tok [0, 3, 7] fun K hK => ?_
   simp only [go_sem, rL, rE, reduceCtorEq]
   refine hK _ _ ?_
   refine awp_if rfl (fun hc6 => ?_) (fun hc6 => ?_)
   · skip
     rw [if_pos hc6] at h
     have t7 := eq_true hc6
     refine zh ?_
     refine hZ5 _ _ ?_
     refine ze fun Z8 hZ8 => ?_
     refine zj ?_
     obtain ⟨y9, hy9, h⟩ := bind_some h
     have f10 := E22.idxS hy9
     have f11 := E22.fldS0 (f := 3) rfl rfl hy9
     obtain ⟨y12, hy12, h⟩ := bind_some h
     have f13 := E22.idxS hy12
     have f14 := E22.fldS0 (f := 3) rfl rfl hy12
     refine rd [0, 3, 21] fun K hK => ?_
     refine DW.start (T := tab) [.any, .any, .any, .any, .at [], .any, .any, .any, .any, .any, .at [], .any] [] ?_
     refine DW.runN tok 8 ?_
     simp only [go_sem, rL, rE, reduceCtorEq, encGRaw, t7, f10, f11]
     refine DW.runN tok 4 ?_
     simp only [go_sem, rL, rE, reduceCtorEq, encGRaw, f13, f14]
     refine DW.fin tok (by decide +kernel) rfl ?_
     simp only [zd, upd, rE, reduceIte, zk, fs_nil]
     refine hK _ _ ?_
     refine awp_if rfl (fun hc15 => ?_) (fun hc15 => ?_)
     · skip
       rw [if_pos hc15] at h
       have t16 := eq_true hc15
       refine rg tok [2] fun K hK => ?_
       simp only [go_sem, rL, rE, reduceCtorEq, t16]
       refine hK _ _ ?_
       refine zi ?_
       obtain rfl := Option.some.inj h
       exact retA
     · skip
       rw [if_neg hc15] at h
       have t17 := eq_false hc15
       refine zh ?_
       refine hZ8 _ _ ?_
       refine rgE tok [0, 3] fun K hK => ?_
       simp only [go_sem, rL, rE, reduceCtorEq, t17]
       refine hK _ _ ?_
       exact ⟨_, _, _, Nat.lt_succ_self (0 + k4), ⟨k4, IntKind.i64.wrap (x2 + 1), rfl, rfl, rfl, h⟩, .s⟩
   · skip
     rw [if_neg hc6] at h
     have t18 := eq_false hc6
     refine zx ?_
     refine hZ1 _ _ ?_
     refine rg tok [2] fun K hK => ?_
     simp only [go_sem, rL, rE, reduceCtorEq, t18]
     refine hK _ _ ?_
     refine zi ?_
     obtain rfl := Option.some.inj h
     exact retA
theorem ref04_Rising.ev (a0 : List GRaw) (r : Bool) (h : ref04_Rising a0 = some r) (σ : Store) : ACalls Tryd.prog 116 [.ds true (List.flatMap encGRaw a0) (List.length a0) false] σ (fun r' σ' => r' = .bool r ∧ σ' = σ) :=
 (ref04_Rising.ok a0 r h).c σ
def ref09_rest.j10 (x2 : Int) (rec4 : Int → Option Bool) (x9 : Bool) : Option Bool :=
 (if x9 = true then some false else (rec4 (x2 + 1)))
def ref09_rest.l4 (a0 : GTree) : List GRaw → Int → Option Bool
 | [], x2 => (ref04_Rising a0.fRest).bind fun r6 => some r6
 | y4 :: q4, x2 => bnd (ref04_Check y4) fun r14 => (if (!r14) = true then (ref09_rest.j10 x2 (ref09_rest.l4 a0 q4) true) else bnd (ref09_Has a0 y4.fTag) fun r17 => (ref09_rest.j10 x2 (ref09_rest.l4 a0 q4) r17))
def ref09_rest (a0 : GTree) : Option Bool :=
 (ref09_rest.l4 a0 a0.fRest 0)
theorem ref09_rest.ok (a0 : GTree) (r : Bool) (h : ref09_rest a0 = some r) : ACalls Tryd.prog 91 [.agg (cellsGTree a0)] [] (fun r' _ => r' = .bool r) := by
 refine zl (rs := [.tmp 2]) tok Tryd.func91 rfl Tryd.ntmps91 rfl Tryd.call91 (by simp) ?_
 refine zm [(0, .agg (cellsGTree a0))] ⟨rfl, trivial⟩ ?_
 unfold ref09_rest at h
 refine rg tok [1] fun K hK => ?_
 simp only [go_sem, rL, rE, rA, reduceCtorEq, cellsGTree]
 refine hK _ _ ?_
 refine ze fun Z1 hZ1 => ?_
 refine rg tok [1, 3] fun K hK => ?_
 simp only [go_sem, rL, rE]
 refine hK _ _ ?_
 refine zj ?_
 refine awp_deepS 0 rfl fun hb4 => ?_
 replace hb4 : List.length a0.fRest ≤ 9223372036854775807 := hb4.2.2.2.2.1.1
 refine zt (fun m L τ => ∃ (p4 q4 : List GRaw) (x2 : Int), m = List.length q4 ∧ L = ([(1, .op 0 0 0), (3, .int .i64 x2)] : List (Nat × AV)) ∧ τ = ([.cells 0 [.int .i64 a0.fKind, .int .i64 a0.fN, .str a0.fS, .ds true (List.flatMap encGEntry a0.fEntries) (List.length a0.fEntries) false, .ds true (List.flatMap encGRaw a0.fRest) (List.length a0.fRest) false]] : Store) ∧ a0.fRest = p4 ++ q4 ∧ x2 = (List.length p4 : Int) ∧ ref09_rest.l4 a0 q4 x2 = some r) _ ⟨[], a0.fRest, 0, rfl, rfl, rfl, rfl, rfl, h⟩ .s ?_
 rintro m L τ ⟨p4, q4, x2, rfl, rfl, rfl, hE4, hi4, h⟩
 rcases q4 with _ | ⟨y4, q4⟩
 · have hz4 := zip_nil hE4 hi4
   simp only [ref09_rest.l4] at h
   refine ze fun Z5 hZ5 => ?_
   refine rg tok [1, 3, 8] fun K hK => ?_
   simp only [go_sem, rL, rE, rA, hz4]
   refine hK _ _ ?_
   refine zp rfl ?_
   refine zx ?_
   refine hZ1 _ _ ?_
   refine rc [2] fun K hK => ?_
   obtain ⟨r6, hr6, h⟩ := bind_some h
   refine za tok 2 ?_
   simp only [go_sem, rL, rE, rA]
   refine zf rfl rfl rfl (ref04_Rising.ev a0.fRest r6 hr6 _) ?_
   rintro _ _ ⟨rfl, rfl⟩
   refine za tok 1 ?_
   simp only [go_sem, rL, rE]
   refine zb ?_
   simp only [zd, upd, rE, reduceIte, zk, fs_nil]
   refine hK _ _ ?_
   refine zi ?_
   obtain rfl := Option.some.inj h
   exact retA
 · obtain ⟨hz4, hw4, hx4, hE'4, hi'4⟩ := zip_cons hE4 hi4 hb4
   simp only [ref09_rest.l4] at h
   refine ze fun Z7 hZ7 => ?_
   refine rg tok [1, 3, 8] fun K hK => ?_
   simp only [go_sem, rL, rE, rA, hz4]
   refine hK _ _ ?_
   refine zr rfl ?_
   refine zh ?_
   refine hZ7 _ _ ?_
   refine ze fun Z8 hZ8 => ?_
   refine zj ?_
   refine awp_join (fun L τ => ∃ (x9 : Bool), L = ([(1, .op 0 0 0), (3, .int .i64 x2), (27, .bool x9)] : List (Nat × AV)) ∧ τ = ([.cells 0 [.int .i64 a0.fKind, .int .i64 a0.fN, .str a0.fS, .ds true (List.flatMap encGEntry a0.fEntries) (List.length a0.fEntries) false, .ds true (List.flatMap encGRaw a0.fRest) (List.length a0.fRest) false]] : Store) ∧ ref09_rest.j10 x2 (ref09_rest.l4 a0 q4) x9 = some r) ?_ ?_
   · skip
     refine rdE [1, 3, 27] fun K hK => ?_
     refine DW.start (T := tab) [.any, .at [], .any, .any, .at [], .eff, .any, .any, .at [], .any, .at [], .any, .any, .any, .at [], .eff, .any] [] ?_
     have f12 := E22.idxS hx4
     have f13 := E22.loadS rfl rfl hx4
     obtain ⟨r14, hr14, h⟩ := bnd_elim h
     refine DW.runN tok 5 ?_
     simp only [go_sem, rL, rE, rA, encGRaw, f12, f13]
     refine DW.call rfl rfl rfl (ref04_Check.ev y4 r14 hr14 _) ?_
     refine DW.runN tok 2 ?_
     simp only [go_sem, rL, rE]
     refine DW.at (b := (!r14)) 18 rfl (fun hg18 => ?_) (fun hg18 => ?_)
     · skip
       rw [if_pos hg18] at h
       refine DW.runN tok 8 ?_
       simp only [go_sem, rL, rE]
       refine DW.runN tok 1 ?_
       simp only [go_sem, rL, rE]
       refine DW.fin tok (by decide +kernel) rfl ?_
       simp only [zd, upd, rE, reduceIte, zk, fs_nil]
       refine hK _ _ ?_
       exact ⟨_, _, ⟨true, rfl, rfl, h⟩, .s⟩
     · skip
       rw [if_F hg18] at h
       have f15 := E22.idxS hx4
       have f16 := E22.fldS0 (f := 3) rfl rfl hx4
       obtain ⟨r17, hr17, h⟩ := bnd_elim h
       refine DW.runN tok 7 ?_
       simp only [go_sem, rL, rD, rE, rA, encGRaw, f15, f16]
       refine DW.call rfl rfl rfl (ref09_Has.ev a0 y4.fTag r17 hr17 _) ?_
       refine DW.runN tok 1 ?_
       simp only [go_sem, rL, rE]
       refine DW.fin tok (by decide +kernel) rfl ?_
       simp only [zd, upd, rE, reduceIte, zk, fs_nil]
       refine hK _ _ ?_
       exact ⟨_, _, ⟨r17, rfl, rfl, h⟩, .s⟩
   rintro _ _ ⟨x9, rfl, rfl, h⟩
   unfold ref09_rest.j10 at h
   refine zw (b := x9) rfl (fun hc11 => ?_) (fun hc11 => ?_)
   · skip
     rw [if_pos hc11] at h
     refine rg tok [2] fun K hK => ?_
     simp only [go_sem, rL, rE]
     refine hK _ _ ?_
     refine zi ?_
     obtain rfl := Option.some.inj h
     exact retA
   · skip
     rw [if_F hc11] at h
     refine zh ?_
     refine hZ8 _ _ ?_
     refine rgE tok [1, 3] fun K hK => ?_
     simp only [go_sem, rL, rE, hw4]
     refine hK _ _ ?_
     exact ⟨_, _, _, Nat.lt_succ_self q4.length, ⟨p4 ++ [y4], q4, x2 + 1, rfl, rfl, rfl, hE'4, hi'4, h⟩, .s⟩
theorem ref09_rest.ev (a0 : GTree) (r : Bool) (h : ref09_rest a0 = some r) (σ : Store) : ACalls Tryd.prog 91 [.agg (cellsGTree a0)] σ (fun r' σ' => r' = .bool r ∧ σ' = σ) :=
 (ref09_rest.ok a0 r h).c σ
def ref09_check.body (self_ref09_check : GTree → Option Bool) (self_ref09_entries : (List GEntry) → Option Bool) (a0 : GTree) : Option Bool :=
 (if a0.fKind = 1 then some (((decide (a0.fS = [])) && (decide ((List.length a0.fEntries : Int) = 0))) && (decide ((List.length a0.fRest : Int) = 0))) else (if a0.fKind = 2 then some (((decide (a0.fN = 0)) && (decide ((List.length a0.fEntries : Int) = 0))) && (decide ((List.length a0.fRest : Int) = 0))) else (if a0.fKind = 3 then (if ((decide (a0.fN = 0)) && (decide (a0.fS = []))) = true then (self_ref09_entries a0.fEntries).bind fun r16 => some r16 else some false).bind fun c16 => (if c16 = true then (ref09_rest a0).bind fun r18 => some r18 else some false).bind fun c18 => some c18 else some false)))
theorem ref09_check.step (self_ref09_check : GTree → Option Bool) (self_ref09_entries : (List GEntry) → Option Bool) (ih_ref09_check : ∀ (a0 : GTree) (r : Bool), self_ref09_check a0 = some r → ACalls Tryd.prog 62 [.agg (cellsGTree a0)] [] (fun r' _ => r' = .bool r)) (ih_ref09_entries : ∀ (a0 : List GEntry) (r : Bool), self_ref09_entries a0 = some r → ACalls Tryd.prog 90 [.ds true (List.flatMap encGEntry a0) (List.length a0) false] [] (fun r' _ => r' = .bool r)) (a0 : GTree) (r : Bool) (h : ref09_check.body self_ref09_check self_ref09_entries a0 = some r) : ACalls Tryd.prog 62 [.agg (cellsGTree a0)] [] (fun r' _ => r' = .bool r) := by
 have ev_ref09_check := fun a0 r h σ => (ih_ref09_check a0 r h).c σ
 have ev_ref09_entries := fun a0 r h σ => (ih_ref09_entries a0 r h).c σ
 refine zl (rs := [.tmp 2]) tok Tryd.func62 rfl Tryd.ntmps62 rfl Tryd.call62 (by simp) ?_
 refine zm [(0, .agg (cellsGTree a0))] ⟨rfl, trivial⟩ ?_
 unfold ref09_check.body at h
 refine rg tok [1] fun K hK => ?_
 simp only [go_sem, rL, rE, rA, reduceCtorEq, cellsGTree]
 refine hK _ _ ?_
 refine ze fun Z1 hZ1 => ?_
 refine rg tok [1, 4] fun K hK => ?_
 simp only [go_sem, rL, rE, rA]
 refine hK _ _ ?_
 refine zj ?_
 refine rg tok [1, 4, 5] fun K hK => ?_
 simp only [go_sem, rL, rE]
 refine hK _ _ ?_
 refine awp_if rfl (fun hc2 => ?_) (fun hc2 => ?_)
 · skip
   rw [if_pos hc2] at h
   have t3 := eq_true hc2
   refine rc [2] fun K hK => ?_
   refine za tok 4 ?_
   simp only [go_sem, rL, rE, rA, t3]
   refine zn 5 (fun L τ => L = ([(1, .op 0 0 0), (15, .bool ((decide (a0.fS = [])) && (decide ((List.length a0.fEntries : Int) = 0))))] : List (Nat × AV)) ∧ τ = ([.cells 0 [.int .i64 a0.fKind, .int .i64 a0.fN, .str a0.fS, .ds true (List.flatMap encGEntry a0.fEntries) (List.length a0.fEntries) false, .ds true (List.flatMap encGRaw a0.fRest) (List.length a0.fRest) false]] : Store)) ?_ ?_
   · refine ops_if 10 rfl (fun hg10 => ?_) (fun hg10 => ?_)
     · skip
       have t4 := eq_true hg10
       refine za tok 5 ?_
       simp only [go_sem, rL, rE, rA]
       refine zb ⟨rfl, _, _, ⟨rfl, rfl⟩, .p t4⟩
     · skip
       have t5 := eq_false hg10
       refine za tok 5 ?_
       simp only [go_sem, rL, rE]
       refine zb ⟨rfl, _, _, ⟨rfl, rfl⟩, .p t5⟩
   rintro _ _ ⟨rfl, rfl⟩
   refine za tok 1 ?_
   simp only [go_sem, rL, rE]
   refine zn 5 (fun L τ => L = ([(21, .bool (((decide (a0.fS = [])) && (decide ((List.length a0.fEntries : Int) = 0))) && (decide ((List.length a0.fRest : Int) = 0))))] : List (Nat × AV)) ∧ τ = ([.cells 0 [.int .i64 a0.fKind, .int .i64 a0.fN, .str a0.fS, .ds true (List.flatMap encGEntry a0.fEntries) (List.length a0.fEntries) false, .ds true (List.flatMap encGRaw a0.fRest) (List.length a0.fRest) false]] : Store)) ?_ ?_
   · refine opsWp_at (b := ((decide (a0.fS = [])) && (decide ((List.length a0.fEntries : Int) = 0)))) 16 rfl (fun hg16 => ?_) (fun hg16 => ?_)
     · skip
       refine za tok 5 ?_
       simp only [go_sem, rL, rE, rA]
       refine zb ⟨rfl, _, _, ⟨rfl, rfl⟩, .b hg16⟩
     · skip
       refine za tok 5 ?_
       simp only [go_sem, rL, rE]
       refine zb ⟨rfl, _, _, ⟨rfl, rfl⟩, .b hg16⟩
   rintro _ _ ⟨rfl, rfl⟩
   refine za tok 1 ?_
   simp only [go_sem, rL]
   refine zb ?_
   simp only [zd, upd, rE, reduceIte, zk, fs_nil]
   refine hK _ _ ?_
   refine zi ?_
   obtain rfl := Option.some.inj h
   exact retA
 · skip
   rw [if_neg hc2] at h
   have t6 := eq_false hc2
   refine rg tok [1, 4, 22] fun K hK => ?_
   simp only [go_sem, rL, rE, t6]
   refine hK _ _ ?_
   refine awp_if rfl (fun hc7 => ?_) (fun hc7 => ?_)
   · skip
     rw [if_pos hc7] at h
     have t8 := eq_true hc7
     refine rc [2] fun K hK => ?_
     refine za tok 4 ?_
     simp only [go_sem, rL, rE, rA, t8]
     refine zn 5 (fun L τ => L = ([(1, .op 0 0 0), (32, .bool ((decide (a0.fN = 0)) && (decide ((List.length a0.fEntries : Int) = 0))))] : List (Nat × AV)) ∧ τ = ([.cells 0 [.int .i64 a0.fKind, .int .i64 a0.fN, .str a0.fS, .ds true (List.flatMap encGEntry a0.fEntries) (List.length a0.fEntries) false, .ds true (List.flatMap encGRaw a0.fRest) (List.length a0.fRest) false]] : Store)) ?_ ?_
     · refine ops_if 27 rfl (fun hg27 => ?_) (fun hg27 => ?_)
       · skip
         have t9 := eq_true hg27
         refine za tok 5 ?_
         simp only [go_sem, rL, rE, rA]
         refine zb ⟨rfl, _, _, ⟨rfl, rfl⟩, .p t9⟩
       · skip
         have t10 := eq_false hg27
         refine za tok 5 ?_
         simp only [go_sem, rL, rE]
         refine zb ⟨rfl, _, _, ⟨rfl, rfl⟩, .p t10⟩
     rintro _ _ ⟨rfl, rfl⟩
     refine za tok 1 ?_
     simp only [go_sem, rL, rE]
     refine zn 5 (fun L τ => L = ([(38, .bool (((decide (a0.fN = 0)) && (decide ((List.length a0.fEntries : Int) = 0))) && (decide ((List.length a0.fRest : Int) = 0))))] : List (Nat × AV)) ∧ τ = ([.cells 0 [.int .i64 a0.fKind, .int .i64 a0.fN, .str a0.fS, .ds true (List.flatMap encGEntry a0.fEntries) (List.length a0.fEntries) false, .ds true (List.flatMap encGRaw a0.fRest) (List.length a0.fRest) false]] : Store)) ?_ ?_
     · refine opsWp_at (b := ((decide (a0.fN = 0)) && (decide ((List.length a0.fEntries : Int) = 0)))) 33 rfl (fun hg33 => ?_) (fun hg33 => ?_)
       · skip
         refine za tok 5 ?_
         simp only [go_sem, rL, rE, rA]
         refine zb ⟨rfl, _, _, ⟨rfl, rfl⟩, .b hg33⟩
       · skip
         refine za tok 5 ?_
         simp only [go_sem, rL, rE]
         refine zb ⟨rfl, _, _, ⟨rfl, rfl⟩, .b hg33⟩
     rintro _ _ ⟨rfl, rfl⟩
     refine za tok 1 ?_
     simp only [go_sem, rL]
     refine zb ?_
     simp only [zd, upd, rE, reduceIte, zk, fs_nil]
     refine hK _ _ ?_
     refine zi ?_
     obtain rfl := Option.some.inj h
     exact retA
   · skip
     rw [if_neg hc7] at h
     have t11 := eq_false hc7
     refine rg tok [1, 39] fun K hK => ?_
     simp only [go_sem, rL, rE, t11]
     refine hK _ _ ?_
     refine awp_if rfl (fun hc12 => ?_) (fun hc12 => ?_)
     · skip
       rw [if_pos hc12] at h
       have t13 := eq_true hc12
       refine rc [2] fun K hK => ?_
       refine za tok 4 ?_
       simp only [go_sem, rL, rE, rA, t13]
       refine zn 4 (fun L τ => L = ([(1, .op 0 0 0), (48, .bool ((decide (a0.fN = 0)) && (decide (a0.fS = []))))] : List (Nat × AV)) ∧ τ = ([.cells 0 [.int .i64 a0.fKind, .int .i64 a0.fN, .str a0.fS, .ds true (List.flatMap encGEntry a0.fEntries) (List.length a0.fEntries) false, .ds true (List.flatMap encGRaw a0.fRest) (List.length a0.fRest) false]] : Store)) ?_ ?_
       · refine ops_if 44 rfl (fun hg44 => ?_) (fun hg44 => ?_)
         · skip
           have t14 := eq_true hg44
           refine za tok 4 ?_
           simp only [go_sem, rL, rE, rA]
           refine zb ⟨rfl, _, _, ⟨rfl, rfl⟩, .p t14⟩
         · skip
           have t15 := eq_false hg44
           refine za tok 4 ?_
           simp only [go_sem, rL, rE]
           refine zb ⟨rfl, _, _, ⟨rfl, rfl⟩, .p t15⟩
       rintro _ _ ⟨rfl, rfl⟩
       refine za tok 1 ?_
       simp only [go_sem, rL, rE]
       obtain ⟨c16, hc16, h⟩ := bind_some h
       refine zn 4 (fun L τ => L = ([(1, .op 0 0 0), (53, .bool c16)] : List (Nat × AV)) ∧ τ = ([.cells 0 [.int .i64 a0.fKind, .int .i64 a0.fN, .str a0.fS, .ds true (List.flatMap encGEntry a0.fEntries) (List.length a0.fEntries) false, .ds true (List.flatMap encGRaw a0.fRest) (List.length a0.fRest) false]] : Store)) ?_ ?_
       · refine opsWp_at (b := ((decide (a0.fN = 0)) && (decide (a0.fS = [])))) 49 rfl (fun hg49 => ?_) (fun hg49 => ?_)
         · skip
           rw [if_pos hg49] at hc16
           obtain ⟨r17, hr17, hc16⟩ := bind_some hc16
           refine za tok 2 ?_
           simp only [go_sem, rL, rE, rA]
           refine zf rfl rfl rfl (ev_ref09_entries a0.fEntries r17 hr17 _) ?_
           rintro _ _ ⟨rfl, rfl⟩
           refine za tok 1 ?_
           simp only [go_sem, rL, rE]
           obtain rfl := Option.some.inj hc16
           refine zb ⟨rfl, _, _, ⟨rfl, rfl⟩, .b hg49⟩
         · skip
           rw [if_F hg49] at hc16
           refine za tok 4 ?_
           simp only [go_sem, rL, rE]
           obtain rfl := Option.some.inj hc16
           refine zb ⟨rfl, _, _, ⟨rfl, rfl⟩, .b hg49⟩
       rintro _ _ ⟨rfl, rfl⟩
       refine za tok 1 ?_
       simp only [go_sem, rL, rE]
       obtain ⟨c18, hc18, h⟩ := bind_some h
       refine zn 3 (fun L τ => L = ([(57, .bool c18)] : List (Nat × AV)) ∧ τ = ([.cells 0 [.int .i64 a0.fKind, .int .i64 a0.fN, .str a0.fS, .ds true (List.flatMap encGEntry a0.fEntries) (List.length a0.fEntries) false, .ds true (List.flatMap encGRaw a0.fRest) (List.length a0.fRest) false]] : Store)) ?_ ?_
       · refine opsWp_at (b := c16) 54 rfl (fun hg54 => ?_) (fun hg54 => ?_)
         · skip
           rw [if_pos hg54] at hc18
           obtain ⟨r19, hr19, hc18⟩ := bind_some hc18
           refine za tok 1 ?_
           simp only [go_sem, rL, rD, rE, rA]
           refine zf rfl rfl rfl (ref09_rest.ev a0 r19 hr19 _) ?_
           rintro _ _ ⟨rfl, rfl⟩
           refine za tok 1 ?_
           simp only [go_sem, rL, rE]
           obtain rfl := Option.some.inj hc18
           refine zb ⟨rfl, _, _, ⟨rfl, rfl⟩, .b hg54⟩
         · skip
           rw [if_F hg54] at hc18
           refine za tok 3 ?_
           simp only [go_sem, rL, rE]
           obtain rfl := Option.some.inj hc18
           refine zb ⟨rfl, _, _, ⟨rfl, rfl⟩, .b hg54⟩
       rintro _ _ ⟨rfl, rfl⟩
       refine za tok 1 ?_
       simp only [go_sem, rL]
       refine zb ?_
       simp only [zd, upd, rE, reduceIte, zk, fs_nil]
       refine hK _ _ ?_
       refine zi ?_
       obtain rfl := Option.some.inj h
       exact retA
     · skip
       rw [if_neg hc12] at h
       have t20 := eq_false hc12
       refine zh ?_
       refine hZ1 _ _ ?_
       refine rg tok [2] fun K hK => ?_
       simp only [go_sem, rL, rE, t20]
       refine hK _ _ ?_
       refine zi ?_
       obtain rfl := Option.some.inj h
       exact retA
def ref09_entries.j23 (x16 : Int) (rec18 : Int → Option Bool) (x22 : Bool) : Option Bool :=
 (if x22 = true then some false else (rec18 (x16 + 1)))
def ref09_entries.l18 (self_ref09_check : GTree → Option Bool) (x3 : Int) (rec6 : Int → Int → Option Bool) (y6 : GEntry) : List GTree → Int → Option Bool
 | [], x16 => (rec6 (x3 + 1) y6.fTag)
 | y18 :: q18, x16 => (idxL y6.fTrees 0).bind fun y27 => (if y18.fKind = y27.fKind then (self_ref09_check y18).bind fun r34 => (ref09_entries.j23 x16 (ref09_entries.l18 self_ref09_check x3 rec6 y6 q18) (!r34)) else (ref09_entries.j23 x16 (ref09_entries.l18 self_ref09_check x3 rec6 y6 q18) true))
def ref09_entries.l6 (self_ref09_check : GTree → Option Bool) : List GEntry → Int → Int → Option Bool
 | [], x3, x2 => some true
 | y6 :: q6, x3, x2 => (if ((((decide (y6.fTag ≤ x2)) || (decide (500 < y6.fTag))) || (decide ((List.length y6.fTrees : Int) < 1))) || (decide (64 < (List.length y6.fTrees : Int)))) = true then some false else (ref09_entries.l18 self_ref09_check x3 (ref09_entries.l6 self_ref09_check q6) y6 y6.fTrees 0))
def ref09_entries.body (self_ref09_check : GTree → Option Bool) (self_ref09_entries : (List GEntry) → Option Bool) (a0 : List GEntry) : Option Bool :=
 (ref09_entries.l6 self_ref09_check a0 0 0)
theorem ref09_entries.step (self_ref09_check : GTree → Option Bool) (self_ref09_entries : (List GEntry) → Option Bool) (ih_ref09_check : ∀ (a0 : GTree) (r : Bool), self_ref09_check a0 = some r → ACalls Tryd.prog 62 [.agg (cellsGTree a0)] [] (fun r' _ => r' = .bool r)) (ih_ref09_entries : ∀ (a0 : List GEntry) (r : Bool), self_ref09_entries a0 = some r → ACalls Tryd.prog 90 [.ds true (List.flatMap encGEntry a0) (List.length a0) false] [] (fun r' _ => r' = .bool r)) (a0 : List GEntry) (r : Bool) (h : ref09_entries.body self_ref09_check self_ref09_entries a0 = some r) : ACalls Tryd.prog 90 [.ds true (List.flatMap encGEntry a0) (List.length a0) false] [] (fun r' _ => r' = .bool r) := by
 have ev_ref09_check := fun a0 r h σ => (ih_ref09_check a0 r h).c σ
 have ev_ref09_entries := fun a0 r h σ => (ih_ref09_entries a0 r h).c σ
 refine zl (rs := [.tmp 2]) tok Tryd.func90 rfl Tryd.ntmps90 rfl Tryd.call90 (by simp) ?_
 refine zm [(0, .ds true (List.flatMap encGEntry a0) (List.length a0) false)] ⟨rfl, trivial⟩ ?_
 unfold ref09_entries.body at h
 refine rg tok [0] fun K hK => ?_
 simp only [go_sem, rL, reduceCtorEq]
 refine hK _ _ ?_
 refine rg tok [0, 3] fun K hK => ?_
 simp only [go_sem, rL, reduceCtorEq]
 refine hK _ _ ?_
 refine ze fun Z1 hZ1 => ?_
 refine rg tok [0, 3, 4] fun K hK => ?_
 simp only [go_sem, rL, rE, reduceCtorEq]
 refine hK _ _ ?_
 refine zj ?_
 refine awp_deep 0 fun hb6 => ?_
 replace hb6 : List.length a0 ≤ 9223372036854775807 := hb6.1
 refine zt (fun m L τ => ∃ (p6 q6 : List GEntry) (x3 : Int) (x2 : Int), m = List.length q6 ∧ L = ([(0, .ds true (List.flatMap encGEntry a0) (List.length a0) false), (3, .int .i64 x2), (4, .int .i64 x3)] : List (Nat × AV)) ∧ τ = ([] : Store) ∧ a0 = p6 ++ q6 ∧ x3 = (List.length p6 : Int) ∧ ref09_entries.l6 self_ref09_check q6 x3 x2 = some r) _ ⟨[], a0, 0, 0, rfl, rfl, rfl, rfl, rfl, h⟩ .s ?_
 rintro m L τ ⟨p6, q6, x3, x2, rfl, rfl, rfl, hE6, hi6, h⟩
 rcases q6 with _ | ⟨y6, q6⟩
 · have hz6 := zip_nil hE6 hi6
   simp only [ref09_entries.l6] at h
   refine ze fun Z7 hZ7 => ?_
   refine rg tok [0, 3, 4, 10] fun K hK => ?_
   simp only [go_sem, rL, rE, reduceCtorEq, hz6]
   refine hK _ _ ?_
   refine zp rfl ?_
   refine zx ?_
   refine hZ1 _ _ ?_
   refine rg tok [2] fun K hK => ?_
   simp only [go_sem, rL, rE, reduceCtorEq]
   refine hK _ _ ?_
   refine zi ?_
   obtain rfl := Option.some.inj h
   exact retA
 · obtain ⟨hz6, hw6, hx6, hE'6, hi'6⟩ := zip_cons hE6 hi6 hb6
   simp only [ref09_entries.l6] at h
   refine ze fun Z8 hZ8 => ?_
   refine rg tok [0, 3, 4, 10] fun K hK => ?_
   simp only [go_sem, rL, rE, reduceCtorEq, hz6]
   refine hK _ _ ?_
   refine zr rfl ?_
   refine zh ?_
   refine hZ8 _ _ ?_
   refine ze fun Z9 hZ9 => ?_
   refine zj ?_
   have f10 := E40.idxS hx6
   have f11 := E40.loadS rfl rfl hx6
   refine rg tok [0, 3, 4, 5] fun K hK => ?_
   simp only [go_sem, rL, rD, rE, rA, reduceCtorEq, cellsGEntry, zy, f10, f11]
   refine hK _ _ ?_
   refine ze fun Z12 hZ12 => ?_
   refine rc [0, 4, 5, 37] fun K hK => ?_
   refine za tok 5 ?_
   simp only [go_sem, rL, rE, rA, reduceCtorEq]
   refine zn 4 (fun L τ => L = ([(0, .ds true (List.flatMap encGEntry a0) (List.length a0) false), (4, .int .i64 x3), (5, .op 0 0 0), (25, .bool ((decide (y6.fTag ≤ x2)) || (decide (500 < y6.fTag))))] : List (Nat × AV)) ∧ τ = ([.cells 0 [.int .i64 y6.fTag, .ds true (List.flatMap encGTree y6.fTrees) (List.length y6.fTrees) false]] : Store)) ?_ ?_
   · refine ops_if 21 rfl (fun hg21 => ?_) (fun hg21 => ?_)
     · skip
       have t13 := eq_true hg21
       refine za tok 4 ?_
       simp only [go_sem, rL, rE, reduceCtorEq]
       refine zb ⟨rfl, _, _, ⟨rfl, rfl⟩, .p t13⟩
     · skip
       have t14 := eq_false hg21
       refine za tok 4 ?_
       simp only [go_sem, rL, rE, rA, reduceCtorEq]
       refine zb ⟨rfl, _, _, ⟨rfl, rfl⟩, .p t14⟩
   rintro _ _ ⟨rfl, rfl⟩
   refine za tok 1 ?_
   simp only [go_sem, rL, rE, reduceCtorEq]
   refine zn 5 (fun L τ => L = ([(0, .ds true (List.flatMap encGEntry a0) (List.length a0) false), (4, .int .i64 x3), (5, .op 0 0 0), (31, .bool (((decide (y6.fTag ≤ x2)) || (decide (500 < y6.fTag))) || (decide ((List.length y6.fTrees : Int) < 1))))] : List (Nat × AV)) ∧ τ = ([.cells 0 [.int .i64 y6.fTag, .ds true (List.flatMap encGTree y6.fTrees) (List.length y6.fTrees) false]] : Store)) ?_ ?_
   · refine opsWp_at (b := ((decide (y6.fTag ≤ x2)) || (decide (500 < y6.fTag)))) 26 rfl (fun hg26 => ?_) (fun hg26 => ?_)
     · skip
       refine za tok 5 ?_
       simp only [go_sem, rL, rE, reduceCtorEq]
       refine zb ⟨rfl, _, _, ⟨rfl, rfl⟩, .b hg26⟩
     · skip
       refine za tok 5 ?_
       simp only [go_sem, rL, rE, rA, reduceCtorEq]
       refine zb ⟨rfl, _, _, ⟨rfl, rfl⟩, .b hg26⟩
   rintro _ _ ⟨rfl, rfl⟩
   refine za tok 1 ?_
   simp only [go_sem, rL, rE, reduceCtorEq]
   refine zn 5 (fun L τ => L = ([(0, .ds true (List.flatMap encGEntry a0) (List.length a0) false), (4, .int .i64 x3), (5, .op 0 0 0), (37, .bool ((((decide (y6.fTag ≤ x2)) || (decide (500 < y6.fTag))) || (decide ((List.length y6.fTrees : Int) < 1))) || (decide (64 < (List.length y6.fTrees : Int)))))] : List (Nat × AV)) ∧ τ = ([.cells 0 [.int .i64 y6.fTag, .ds true (List.flatMap encGTree y6.fTrees) (List.length y6.fTrees) false]] : Store)) ?_ ?_
   · refine opsWp_at (b := (((decide (y6.fTag ≤ x2)) || (decide (500 < y6.fTag))) || (decide ((List.length y6.fTrees : Int) < 1)))) 32 rfl (fun hg32 => ?_) (fun hg32 => ?_)
     · skip
       refine za tok 5 ?_
       simp only [go_sem, rL, rE, reduceCtorEq]
       refine zb ⟨rfl, _, _, ⟨rfl, rfl⟩, .b hg32⟩
     · skip
       refine za tok 5 ?_
       simp only [go_sem, rL, rE, rA, reduceCtorEq]
       refine zb ⟨rfl, _, _, ⟨rfl, rfl⟩, .b hg32⟩
   rintro _ _ ⟨rfl, rfl⟩
   refine zb ?_
   simp only [zd, rE, reduceIte, zk, fs_nil]
   refine hK _ _ ?_
   refine zw (b := ((((decide (y6.fTag ≤ x2)) || (decide (500 < y6.fTag))) || (decide ((List.length y6.fTrees : Int) < 1))) || (decide (64 < (List.length y6.fTrees : Int))))) rfl (fun hc15 => ?_) (fun hc15 => ?_)
   · skip
     rw [if_pos hc15] at h
     refine rg tok [2] fun K hK => ?_
     simp only [go_sem, rL, rE, reduceCtorEq]
     refine hK _ _ ?_
     refine zi ?_
     obtain rfl := Option.some.inj h
     exact retA
   · skip
     rw [if_F hc15] at h
     refine zh ?_
     refine hZ12 _ _ ?_
     refine rg tok [0, 3, 4, 5] fun K hK => ?_
     simp only [go_sem, rL, rE, rA, reduceCtorEq]
     refine hK _ _ ?_
     refine rg tok [0, 3, 4, 5, 6] fun K hK => ?_
     simp only [go_sem, rL, rE, reduceCtorEq]
     refine hK _ _ ?_
     refine zj ?_
     refine awp_deepS 0 rfl fun hb18 => ?_
     replace hb18 : List.length y6.fTrees ≤ 9223372036854775807 := hb18.2.1.1
     refine zt (fun m L τ => ∃ (p18 q18 : List GTree) (x16 : Int), m = List.length q18 ∧ L = ([(0, .ds true (List.flatMap encGEntry a0) (List.length a0) false), (3, .int .i64 y6.fTag), (4, .int .i64 x3), (5, .op 0 0 0), (6, .int .i64 x16)] : List (Nat × AV)) ∧ τ = ([.cells 0 [.int .i64 y6.fTag, .ds true (List.flatMap encGTree y6.fTrees) (List.length y6.fTrees) false]] : Store) ∧ y6.fTrees = p18 ++ q18 ∧ x16 = (List.length p18 : Int) ∧ ref09_entries.l18 self_ref09_check x3 (ref09_entries.l6 self_ref09_check q6) y6 q18 x16 = some r) _ ⟨[], y6.fTrees, 0, rfl, rfl, rfl, rfl, rfl, h⟩ .s ?_
     rintro m L τ ⟨p18, q18, x16, rfl, rfl, rfl, hE18, hi18, h⟩
     rcases q18 with _ | ⟨y18, q18⟩
     · have hz18 := zip_nil hE18 hi18
       simp only [ref09_entries.l18] at h
       refine ze fun Z19 hZ19 => ?_
       refine rg tok [0, 3, 4, 5, 6, 44] fun K hK => ?_
       simp only [go_sem, rL, rE, rA, reduceCtorEq, hz18]
       refine hK _ _ ?_
       refine zp rfl ?_
       refine zx ?_
       refine hZ9 _ _ ?_
       refine rgE tok [0, 3, 4] fun K hK => ?_
       simp only [go_sem, rL, rE, reduceCtorEq, hw6]
       refine hK _ _ ?_
       exact ⟨_, _, _, Nat.lt_succ_self q6.length, ⟨p6 ++ [y6], q6, x3 + 1, y6.fTag, rfl, rfl, rfl, hE'6, hi'6, h⟩, (.t [] false)⟩
     · obtain ⟨hz18, hw18, hx18, hE'18, hi'18⟩ := zip_cons hE18 hi18 hb18
       simp only [ref09_entries.l18] at h
       refine ze fun Z20 hZ20 => ?_
       refine rg tok [0, 3, 4, 5, 6, 44] fun K hK => ?_
       simp only [go_sem, rL, rE, rA, reduceCtorEq, hz18]
       refine hK _ _ ?_
       refine zr rfl ?_
       refine zh ?_
       refine hZ20 _ _ ?_
       refine ze fun Z21 hZ21 => ?_
       refine zj ?_
       refine awp_join (fun L τ => ∃ (x22 : Bool), L = ([(0, .ds true (List.flatMap encGEntry a0) (List.length a0) false), (3, .int .i64 y6.fTag), (4, .int .i64 x3), (5, .op 0 0 0), (6, .int .i64 x16), (67, .bool x22)] : List (Nat × AV)) ∧ τ = ([.cells 0 [.int .i64 y6.fTag, .ds true (List.flatMap encGTree y6.fTrees) (List.length y6.fTrees) false]] : Store) ∧ ref09_entries.j23 x16 (ref09_entries.l18 self_ref09_check x3 (ref09_entries.l6 self_ref09_check q6) y6 q18) x22 = some r) ?_ ?_
       · skip
         refine rdE [0, 3, 4, 5, 6, 67] fun K hK => ?_
         refine DW.start (T := tab) [.any, .at [], .any, .any, .any, .at [], .any, .at [], .any, .any, .at [], .any, .any, .any, .at [], .any, .any, .at [], .eff, .any, .any] [] ?_
         have f25 := E59.idxS hx18
         have f26 := E59.fldS0 (f := 3) rfl rfl hx18
         obtain ⟨y27, hy27, h⟩ := bind_some h
         have f28 := E59.idxS hy27
         have f29 := E59.fldS0 (f := 3) rfl rfl hy27
         refine DW.runN tok 8 ?_
         simp only [go_sem, rL, rE, rA, reduceCtorEq, cellsGTree, encGTree_eq, f25, f26]
         refine DW.runN tok 5 ?_
         simp only [go_sem, rL, rE, reduceCtorEq, cellsGTree, encGTree_eq, f28, f29]
         refine DW.if 59 rfl (fun hg59 => ?_) (fun hg59 => ?_)
         · skip
           rw [if_neg hg59] at h
           have t30 := eq_false hg59
           refine DW.runN tok 8 ?_
           simp only [go_sem, rL, rE, reduceCtorEq, t30]
           refine DW.fin tok (by decide +kernel) rfl ?_
           simp only [zd, upd, rE, reduceIte, zk, fs_nil]
           refine hK _ _ ?_
           exact ⟨_, _, ⟨true, rfl, rfl, h⟩, .s⟩
         · skip
           rw [if_pos hg59] at h
           have t31 := eq_true hg59
           have f32 := E59.idxS hx18
           have f33 := E59.loadS rfl rfl hx18
           obtain ⟨r34, hr34, h⟩ := bind_some h
           refine DW.runN tok 5 ?_
           simp only [go_sem, rL, rE, rA, reduceCtorEq, cellsGTree, encGTree_eq, t31, f32, f33]
           refine DW.call rfl rfl rfl (ev_ref09_check y18 r34 hr34 _) ?_
           refine DW.runN tok 2 ?_
           simp only [go_sem, rL, rE, reduceCtorEq]
           refine DW.fin tok (by decide +kernel) rfl ?_
           simp only [zd, upd, rE, reduceIte, zk, fs_nil]
           refine hK _ _ ?_
           exact ⟨_, _, ⟨!r34, rfl, rfl, h⟩, .s⟩
       rintro _ _ ⟨x22, rfl, rfl, h⟩
       unfold ref09_entries.j23 at h
       refine zw (b := x22) rfl (fun hc24 => ?_) (fun hc24 => ?_)
       · skip
         rw [if_pos hc24] at h
         refine rg tok [2] fun K hK => ?_
         simp only [go_sem, rL, rE, reduceCtorEq]
         refine hK _ _ ?_
         refine zi ?_
         obtain rfl := Option.some.inj h
         exact retA
       · skip
         rw [if_F hc24] at h
         refine zh ?_
         refine hZ21 _ _ ?_
         refine rgE tok [0, 3, 4, 5, 6] fun K hK => ?_
         simp only [go_sem, rL, rE, reduceCtorEq, hw18]
         refine hK _ _ ?_
         exact ⟨_, _, _, Nat.lt_succ_self q18.length, ⟨p18 ++ [y18], q18, x16 + 1, rfl, rfl, rfl, hE'18, hi'18, h⟩, .s⟩
mutual
def ref09_check : Nat → GTree → Option Bool
 | 0, _ => none
 | k + 1, a0 => ref09_check.body (ref09_check k) (ref09_entries k) a0
def ref09_entries : Nat → (List GEntry) → Option Bool
 | 0, _ => none
 | k + 1, a0 => ref09_entries.body (ref09_check k) (ref09_entries k) a0
end
theorem ref09_check.all (k : Nat) : (∀ (a0 : GTree) (r : Bool), ref09_check k a0 = some r → ACalls Tryd.prog 62 [.agg (cellsGTree a0)] [] (fun r' _ => r' = .bool r)) ∧ (∀ (a0 : List GEntry) (r : Bool), ref09_entries k a0 = some r → ACalls Tryd.prog 90 [.ds true (List.flatMap encGEntry a0) (List.length a0) false] [] (fun r' _ => r' = .bool r)) := by
 induction k with
 | zero => exact ⟨(fun a0 r h => by simp only [ref09_check] at h; cases h), (fun a0 r h => by simp only [ref09_entries] at h; cases h)⟩
 | succ k ih => exact ⟨(fun a0 r h => ref09_check.step _ _ ih.1 ih.2 a0 r (by simpa only [ref09_check] using h)), (fun a0 r h => ref09_entries.step _ _ ih.1 ih.2 a0 r (by simpa only [ref09_entries] using h))⟩
theorem ref09_check.ev (k : Nat) (a0 : GTree) (r : Bool) (h : ref09_check k a0 = some r) (σ : Store) : ACalls Tryd.prog 62 [.agg (cellsGTree a0)] σ (fun r' σ' => r' = .bool r ∧ σ' = σ) :=
 ((ref09_check.all k).1 a0 r h).c σ
def ref09_Check (a0 : GTree) : Option Bool :=
 (ref09_Depth a0).bind fun r1 => (if r1 ≤ 10 then (ref09_check rounds a0).bind fun r2 => some r2 else some false).bind fun c2 => some c2
theorem ref09_Check.ok (a0 : GTree) (r : Bool) (h : ref09_Check a0 = some r) : ACalls Tryd.prog 36 [.agg (cellsGTree a0)] [] (fun r' _ => r' = .bool r) := by
 refine zl (rs := [.tmp 2]) tok Tryd.func36 rfl Tryd.ntmps36 rfl Tryd.call36 (by simp) ?_
 refine zm [(0, .agg (cellsGTree a0))] ⟨rfl, trivial⟩ ?_
 unfold ref09_Check at h
 refine rg tok [1] fun K hK => ?_
 simp only [go_sem, rL, rE, rA, reduceCtorEq, cellsGTree]
 refine hK _ _ ?_
 refine rc [2] fun K hK => ?_
 obtain ⟨r1, hr1, h⟩ := bind_some h
 refine za tok 1 ?_
 simp only [go_sem, rL, rD, rA]
 refine zf rfl rfl rfl (ref09_Depth.ev a0 r1 hr1 _) ?_
 rintro _ _ ⟨rfl, rfl⟩
 refine za tok 2 ?_
 simp only [go_sem, rL, rE]
 obtain ⟨c2, hc2, h⟩ := bind_some h
 refine zn 3 (fun L τ => L = ([(9, .bool c2)] : List (Nat × AV)) ∧ τ = ([.cells 0 [.int .i64 a0.fKind, .int .i64 a0.fN, .str a0.fS, .ds true (List.flatMap encGEntry a0.fEntries) (List.length a0.fEntries) false, .ds true (List.flatMap encGRaw a0.fRest) (List.length a0.fRest) false]] : Store)) ?_ ?_
 · refine ops_if 6 rfl (fun hg6 => ?_) (fun hg6 => ?_)
   · skip
     have t3 := eq_true hg6
     rw [if_pos hg6] at hc2
     obtain ⟨r4, hr4, hc2⟩ := bind_some hc2
     refine za tok 1 ?_
     simp only [go_sem, rL, rD, rE, rA]
     refine zf rfl rfl rfl (ref09_check.ev rounds a0 r4 hr4 _) ?_
     rintro _ _ ⟨rfl, rfl⟩
     refine za tok 1 ?_
     simp only [go_sem, rL, rE]
     obtain rfl := Option.some.inj hc2
     refine zb ⟨rfl, _, _, ⟨rfl, rfl⟩, .p t3⟩
   · skip
     have t5 := eq_false hg6
     rw [if_neg hg6] at hc2
     refine za tok 3 ?_
     simp only [go_sem, rL, rE]
     obtain rfl := Option.some.inj hc2
     refine zb ⟨rfl, _, _, ⟨rfl, rfl⟩, .p t5⟩
 rintro _ _ ⟨rfl, rfl⟩
 refine za tok 1 ?_
 simp only [go_sem, rL]
 refine zb ?_
 simp only [zd, upd, rE, reduceIte, zk, fs_nil]
 refine hK _ _ ?_
 refine zi ?_
 obtain rfl := Option.some.inj h
 exact retA
theorem ref09_Check.ev (a0 : GTree) (r : Bool) (h : ref09_Check a0 = some r) (σ : Store) : ACalls Tryd.prog 36 [.agg (cellsGTree a0)] σ (fun r' σ' => r' = .bool r ∧ σ' = σ) :=
 (ref09_Check.ok a0 r h).c σ
def ref04_Sorted.j23 (x4 : Int) (rec8 : Int → List GRaw → Option (List GRaw)) (l16 : List GRaw) (x17 : Int) (rec20 : List GRaw → Int → Option (List GRaw)) (x22 : Bool) : Option (List GRaw) :=
 (if x22 = true then (idxL l16 x17).bind fun y25 => (idxL l16 (IntKind.i64.wrap (x17 - 1))).bind fun y28 => (idxL (setI l16 (IntKind.i64.wrap (x17 - 1)) y25) x17).bind fun y34 => (rec20 (setI (setI l16 (IntKind.i64.wrap (x17 - 1)) y25) x17 y28) (IntKind.i64.wrap (x17 - 1))) else (rec8 (x4 + 1) l16))
def ref04_Sorted.l20 (x4 : Int) (rec8 : Int → List GRaw → Option (List GRaw)) : Nat → List GRaw → Int → Option (List GRaw)
 | 0, _, _ => none
 | k20 + 1, l16, x17 => (if 0 < x17 then (idxL l16 (IntKind.i64.wrap (x17 - 1))).bind fun y39 => (idxL l16 x17).bind fun y42 => (ref04_Sorted.j23 x4 rec8 l16 x17 (ref04_Sorted.l20 x4 rec8 k20) (decide (y42.fTag < y39.fTag))) else (ref04_Sorted.j23 x4 rec8 l16 x17 (ref04_Sorted.l20 x4 rec8 k20) false))
def ref04_Sorted.l8 : List GRaw → Int → List GRaw → Option (List GRaw)
 | [], x4, l2 => some l2
 | y8 :: q8, x4, l2 => (room (List.length l2 + 1) 40).bind fun _u14 => (ref04_Sorted.l20 x4 (ref04_Sorted.l8 q8) rounds (l2 ++ [y8]) (List.length l2 : Int))
def ref04_Sorted (a0 : List GRaw) : Option (List GRaw) :=
 (ref04_Sorted.l8 a0 0 ([] : List GRaw))
theorem ref04_Sorted.own (a0 : List GRaw) (r : List GRaw) (h : ref04_Sorted a0 = some r) : ACalls Tryd.prog 92 [.ds true (List.flatMap encGRaw a0) (List.length a0) false] [] (fun r' σ' => r' = .os true 4 0 0 0 (List.length r) false ∧ σ' = [.cells 0 (List.flatMap encGRaw r)]) := by
 refine ACalls.own0 (by simp only [push_cast]) ?_
 refine acalls_own (rs := [.tmp 2]) tok Tryd.func92 rfl Tryd.ntmps92 rfl Tryd.call92 (by simp) ?_
 refine zm [(0, .ds true (List.flatMap encGRaw a0) (List.length a0) false)] ⟨rfl, trivial⟩ ?_
 unfold ref04_Sorted at h
 refine rg tok [0] fun K hK => ?_
 simp only [go_sem, rL, reduceCtorEq]
 refine hK _ _ ?_
 refine rg tok [0, 3] fun K hK => ?_
 simp only [go_sem, rL, reduceCtorEq]
 refine hK _ _ ?_
 refine awp_virtS 3 4 rfl ?_
 refine awp_tellS (L := [(0, .ds true (List.flatMap encGRaw a0) (List.length a0) false), (3, .os true 4 0 0 0 (List.length ([] : List GRaw)) false)]) (τ := [.cells 0 (List.flatMap encGRaw ([] : List GRaw))]) .s ?_
 refine ze fun Z1 hZ1 => ?_
 refine rg tok [0, 3, 4] fun K hK => ?_
 simp only [go_sem, rL, rE, reduceCtorEq]
 refine hK _ _ ?_
 refine zj ?_
 refine awp_deep 0 fun hb8 => ?_
 replace hb8 : List.length a0 ≤ 9223372036854775807 := hb8.1
 refine zt (fun m L τ => ∃ (p8 q8 : List GRaw) (x4 : Int) (l2 : List GRaw) (v3 : Nat), m = List.length q8 ∧ L = ([(0, .ds true (List.flatMap encGRaw a0) (List.length a0) false), (3, .os true 4 0 v3 0 (List.length l2) false), (4, .int .i64 x4)] : List (Nat × AV)) ∧ τ = ([.cells v3 (List.flatMap encGRaw l2)] : Store) ∧ a0 = p8 ++ q8 ∧ x4 = (List.length p8 : Int) ∧ ref04_Sorted.l8 q8 x4 l2 = some r) _ ⟨[], a0, 0, ([] : List GRaw), 0, rfl, rfl, rfl, rfl, rfl, h⟩ .s ?_
 rintro m L τ ⟨p8, q8, x4, l2, v3, rfl, rfl, rfl, hE8, hi8, h⟩
 rcases q8 with _ | ⟨y8, q8⟩
 · have hz8 := zip_nil hE8 hi8
   simp only [ref04_Sorted.l8] at h
   refine ze fun Z9 hZ9 => ?_
   refine rg tok [0, 3, 4, 9] fun K hK => ?_
   simp only [go_sem, rL, rE, reduceCtorEq, hz8]
   refine hK _ _ ?_
   refine zp rfl ?_
   refine zx ?_
   refine hZ1 _ _ ?_
   refine rg tok [2] fun K hK => ?_
   simp only [go_sem, rL, rE, reduceCtorEq]
   refine hK _ _ ?_
   refine zi ?_
   obtain rfl := Option.some.inj h
   simp only [retQ, resAll, resOne, resAV, exists_eq_left', go_sem]
   refine ⟨0, v3, by simp, ?_, ?_⟩
   · first | rfl | (simp only [go_sem, rL, rD, rE, rA, rM, rS, reduceIte, reduceCtorEq, push_cast, if_true, List.drop_zero, Nat.zero_add, List.map_cons, List.map_nil, List.map_append, Bool.or_true, Bool.or_false, Bool.and_true, Bool.and_false, Bool.not_true, Bool.not_false, zv, encGRaw] <;> rfl)
   · first | rfl | (simp only [go_sem, push_cast, List.map_nil, zv] <;> rfl)
 · obtain ⟨hz8, hw8, hx8, hE'8, hi'8⟩ := zip_cons hE8 hi8 hb8
   simp only [ref04_Sorted.l8] at h
   refine ze fun Z10 hZ10 => ?_
   refine rg tok [0, 3, 4, 9] fun K hK => ?_
   simp only [go_sem, rL, rE, reduceCtorEq, hz8]
   refine hK _ _ ?_
   refine zr rfl ?_
   refine zh ?_
   refine hZ10 _ _ ?_
   refine ze fun Z11 hZ11 => ?_
   refine zj ?_
   refine rg tok [0, 3, 4, 5] fun K hK => ?_
   simp only [go_sem, rL, rE, reduceCtorEq]
   refine hK _ _ ?_
   have f12 := E22.idxS hx8
   have f13 := E22.loadS rfl rfl hx8
   obtain ⟨_u14, hu14, h⟩ := bind_some h
   have gu14 := room_some hu14
   have f15 := (zo E22.len l2)
   refine rg tok [0, 3, 4, 5] fun K hK => ?_
   simp only [go_sem, rL, rD, rE, rA, rM, reduceCtorEq, evBuildSlice, zeroRun, List.range_succ, List.range_zero, true_and, Nat.reduceMod, evAppend, evAppendTo, lenOfAV, encGRaw, f12, f13, gu14, f15, srcCells_o, List.all_nil, List.all_cons, AV.one, Bool.and_self, List.nil_append, List.length_cons, List.length_nil, Nat.zero_add, List.cons_append]
   refine hK _ _ ?_
   refine awp_tellS (L := [(0, .ds true (List.flatMap encGRaw a0) (List.length a0) false), (3, .os true 4 0 (v3 + 1) 0 (List.length (l2 ++ [y8])) false), (4, .int .i64 x4), (5, .int .i64 (List.length l2 : Int))]) (τ := [.cells (v3 + 1) (List.flatMap encGRaw (l2 ++ [y8])), .cells 0 [.int .i64 y8.fTag, .int .i64 y8.fWire, .int .i64 y8.fN, .str y8.fB]]) .s ?_
   refine zj ?_
   refine zt (fun m L τ => ∃ (k20 : Nat) (l16 : List GRaw) (x17 : Int), m = 0 + k20 ∧ L = ([(0, .ds true (List.flatMap encGRaw a0) (List.length a0) false), (3, .os true 4 0 (v3 + 1) 0 (List.length l16) false), (4, .int .i64 x4), (5, .int .i64 x17)] : List (Nat × AV)) ∧ τ = ([.cells (v3 + 1) (List.flatMap encGRaw l16)] : Store) ∧ ref04_Sorted.l20 x4 (ref04_Sorted.l8 q8) k20 l16 x17 = some r) _ ⟨rounds, l2 ++ [y8], (List.length l2 : Int), rfl, rfl, rfl, h⟩ (.t [0] false) ?_
   rintro m L τ ⟨k20, l16, x17, rfl, rfl, rfl, h⟩
   rcases k20 with _ | k20
   · cases h
   · simp only [ref04_Sorted.l20] at h
     refine ze fun Z21 hZ21 => ?_
     refine awp_join (fun L τ => ∃ (x22 : Bool), L = ([(0, .ds true (List.flatMap encGRaw a0) (List.length a0) false), (3, .os true 4 0 (v3 + 1) 0 (List.length l16) false), (4, .int .i64 x4), (5, .int .i64 x17), (36, .bool x22)] : List (Nat × AV)) ∧ τ = ([.cells (v3 + 1) (List.flatMap encGRaw l16)] : Store) ∧ ref04_Sorted.j23 x4 (ref04_Sorted.l8 q8) l16 x17 (ref04_Sorted.l20 x4 (ref04_Sorted.l8 q8) k20) x22 = some r) ?_ ?_
     · skip
       refine rdE [0, 3, 4, 5, 36] fun K hK => ?_
       refine DW.start (T := tab) [.any, .any, .any, .any, .any, .any, .any, .any, .at [], .any, .any, .any, .any, .at [], .any, .any] [] ?_
       refine DW.runN tok 3 ?_
       simp only [go_sem, rL, rE, reduceCtorEq]
       refine DW.if 23 rfl (fun hg23 => ?_) (fun hg23 => ?_)
       · skip
         rw [if_pos hg23] at h
         have t38 := eq_true hg23
         obtain ⟨y39, hy39, h⟩ := bind_some h
         have f40 := E22.idxO hy39
         have f41 := E22.rdfO0 hy39
         obtain ⟨y42, hy42, h⟩ := bind_some h
         have f43 := E22.idxO hy42
         have f44 := E22.rdfO0 hy42
         refine DW.runN tok 8 ?_
         simp only [go_sem, rL, rE, reduceCtorEq, encGRaw, t38, f40, f41]
         refine DW.runN tok 5 ?_
         simp only [go_sem, rL, rE, reduceCtorEq, encGRaw, f43, f44]
         refine DW.fin tok (by decide +kernel) rfl ?_
         simp only [zd, upd, rE, reduceIte, zk, fs_nil]
         refine hK _ _ ?_
         exact ⟨_, _, ⟨decide (y42.fTag < y39.fTag), rfl, rfl, h⟩, .s⟩
       · skip
         rw [if_neg hg23] at h
         have t45 := eq_false hg23
         refine DW.runN tok 8 ?_
         simp only [go_sem, rL, rE, reduceCtorEq, t45]
         refine DW.runN tok 5 ?_
         simp only [go_sem, rL, rE, reduceCtorEq]
         refine DW.fin tok (by decide +kernel) rfl ?_
         simp only [zd, upd, rE, reduceIte, zk, fs_nil]
         refine hK _ _ ?_
         exact ⟨_, _, ⟨false, rfl, rfl, h⟩, .s⟩
     rintro _ _ ⟨x22, rfl, rfl, h⟩
     unfold ref04_Sorted.j23 at h
     refine zw (b := x22) rfl (fun hc24 => ?_) (fun hc24 => ?_)
     · skip
       rw [if_pos hc24] at h
       refine zh ?_
       refine hZ21 _ _ ?_
       refine zj ?_
       obtain ⟨y25, hy25, h⟩ := bind_some h
       have f26 := E22.idxO hy25
       have f27 := E22.rdO hy25
       obtain ⟨y28, hy28, h⟩ := bind_some h
       have f29 := E22.idxO hy28
       have f30 := E22.rdO hy28
       have f31 := E22.idxO hy28
       have f32 := E22.stOc hy28
       have f33 := E22.stOr hy28 (y := y25) (cs := [.int .i64 y25.fTag, .int .i64 y25.fWire, .int .i64 y25.fN, .str y25.fB]) rfl
       simp only [setRun] at f33
       obtain ⟨y34, hy34, h⟩ := bind_some h
       have f35 := E22.idxO hy34
       have f36 := E22.stOc hy34
       have f37 := E22.stOr hy34 (y := y28) (cs := [.int .i64 y28.fTag, .int .i64 y28.fWire, .int .i64 y28.fN, .str y28.fB]) rfl
       simp only [setRun] at f37
       refine rd [0, 3, 4, 5] fun K hK => ?_
       refine DW.start (T := tab) [.any, .any, .any, .any, .any, .any, .any, .any, .at [], .any, .any, .any, .any, .at [], .any, .eff, .any, .eff] [] ?_
       refine DW.runN tok 8 ?_
       simp only [go_sem, rL, rE, reduceCtorEq, f26]
       refine DW.runN tok 8 ?_
       simp only [go_sem, rL, rE, rA, reduceCtorEq, encGRaw, f27, f29, f30, f32, f33]
       refine DW.runN tok 2 ?_
       simp only [go_sem, rL, rE, rA, reduceCtorEq, f26, f36, f37]
       refine DW.fin tok (by decide +kernel) rfl ?_
       simp only [zd, upd, rE, reduceIte, zk, fs_nil]
       refine hK _ _ ?_
       refine rgE tok [0, 3, 4, 5] fun K hK => ?_
       simp only [go_sem, rL, rE, reduceCtorEq]
       refine hK _ _ ?_
       exact ⟨_, _, _, Nat.lt_succ_self (0 + k20), ⟨k20, setI (setI l16 (IntKind.i64.wrap (x17 - 1)) y25) x17 y28, IntKind.i64.wrap (x17 - 1), rfl, rfl, rfl, h⟩, .s⟩
     · skip
       rw [if_F hc24] at h
       refine zx ?_
       refine hZ11 _ _ ?_
       refine rgE tok [0, 3, 4] fun K hK => ?_
       simp only [go_sem, rL, rE, reduceCtorEq, hw8]
       refine hK _ _ ?_
       exact ⟨_, _, _, Nat.lt_succ_self q8.length, ⟨p8 ++ [y8], q8, x4 + 1, l16, v3 + 1, rfl, rfl, rfl, hE'8, hi'8, h⟩, .s⟩
theorem ref04_Sorted.ok (a0 : List GRaw) (r : List GRaw) (h : ref04_Sorted a0 = some r) : ACalls Tryd.prog 92 [.ds true (List.flatMap encGRaw a0) (List.length a0) false] [] (fun r' _ => r' = .ds true (List.flatMap encGRaw r) (List.length r) false) :=
 (ref04_Sorted.own a0 r h).ownData (zo E22.len r) (by simp only [push_cast])
theorem ref04_Sorted.ev (a0 : List GRaw) (r : List GRaw) (h : ref04_Sorted a0 = some r) (σ : Store) : ACalls Tryd.prog 92 [.ds true (List.flatMap encGRaw a0) (List.length a0) false] σ (fun r' σ' => r' = .ds true (List.flatMap encGRaw r) (List.length r) false ∧ σ' = σ) :=
 (ref04_Sorted.ok a0 r h).c σ
def ref02_Put.l8 : Nat → List UInt8 → Int → Option (List UInt8)
 | 0, _, _ => none
 | k8 + 1, l2, x4 => (if 128 ≤ x4 then (room (List.length l2 + 1) 1).bind fun _u13 => ((ref02_Put.l8 k8) (l2 ++ [UInt8.ofNat (Int.toNat (IntKind.u8.wrap ((IntKind.u8.wrap ((x4).tmod 128)) + 128)))]) (IntKind.u64.wrap ((x4).tdiv 128))) else (room (List.length l2 + 1) 1).bind fun _u17 => some (l2 ++ [UInt8.ofNat (Int.toNat (IntKind.u8.wrap x4))]))
def ref02_Put (a0 : Int) : Option (List UInt8) :=
 (ref02_Put.l8 rounds ([] : List UInt8) a0)
theorem ref02_Put.own (a0 : Int) (r : List UInt8) (h : ref02_Put a0 = some r) : ACalls Tryd.prog 117 [.int .u64 a0] [] (fun r' σ' => r' = .os true 1 0 0 0 (List.length r) false ∧ σ' = [.cells 0 (List.flatMap encB r)]) := by
 refine ACalls.own0 (by simp only [push_cast]) ?_
 refine acalls_own (rs := [.tmp 2]) tok Tryd.func117 rfl Tryd.ntmps117 rfl Tryd.call117 (by simp) ?_
 refine zm [(0, .int .u64 a0)] ⟨rfl, trivial⟩ ?_
 unfold ref02_Put at h
 refine rg tok [0] fun K hK => ?_
 simp only [go_sem, rL, reduceCtorEq]
 refine hK _ _ ?_
 refine rg tok [0, 3] fun K hK => ?_
 simp only [go_sem, rL, reduceCtorEq]
 refine hK _ _ ?_
 refine awp_virtS 3 1 rfl ?_
 refine awp_tellS (L := [(0, .int .u64 a0), (3, .os true 1 0 0 0 (List.length ([] : List UInt8)) false)]) (τ := [.cells 0 (List.flatMap encB ([] : List UInt8))]) .s ?_
 refine ze fun Z1 hZ1 => ?_
 refine zj ?_
 refine zt (fun m L τ => ∃ (k8 : Nat) (l2 : List UInt8) (x4 : Int) (v3 : Nat), m = 0 + k8 ∧ L = ([(0, .int .u64 x4), (3, .os true 1 0 v3 0 (List.length l2) false)] : List (Nat × AV)) ∧ τ = ([.cells v3 (List.flatMap encB l2)] : Store) ∧ ref02_Put.l8 k8 l2 x4 = some r) _ ⟨rounds, ([] : List UInt8), a0, 0, rfl, rfl, rfl, h⟩ .s ?_
 rintro m L τ ⟨k8, l2, x4, v3, rfl, rfl, rfl, h⟩
 rcases k8 with _ | k8
 · cases h
 · simp only [ref02_Put.l8] at h
   refine ze fun Z9 hZ9 => ?_
   refine rg tok [0, 3, 5] fun K hK => ?_
   simp only [go_sem, rL, rE, reduceCtorEq]
   refine hK _ _ ?_
   refine awp_if rfl (fun hc10 => ?_) (fun hc10 => ?_)
   · skip
     rw [if_pos hc10] at h
     have t11 := eq_true hc10
     refine zh ?_
     refine hZ9 _ _ ?_
     refine zj ?_
     have f12 := conv_int (T := tab) (src := 85) (dst := 5) rfl rfl rfl
     obtain ⟨_u13, hu13, h⟩ := bind_some h
     have gu13 := room_some hu13
     have f14 := (zo E35.len l2)
     refine rg tok [0, 3] fun K hK => ?_
     simp only [go_sem, rL, rD, rE, rM, reduceCtorEq, evBuildSlice, zeroRun, List.range_succ, List.range_zero, true_and, Nat.reduceMod, evAppend, evAppendTo, lenOfAV, t11, f12, gu13, f14, Int.reduceEq, srcCells_o, List.all_nil, List.all_cons, AV.one, Bool.and_self, List.nil_append, List.length_cons, List.length_nil, Nat.zero_add, List.cons_append]
     refine hK _ _ ?_
     refine awp_tellS (L := [(0, .int .u64 x4), (3, .os true 1 0 (v3 + 1) 0 (List.length (l2 ++ [UInt8.ofNat (Int.toNat (IntKind.u8.wrap ((IntKind.u8.wrap ((x4).tmod 128)) + 128)))])) false)]) (τ := [.cells (v3 + 1) (List.flatMap encB (l2 ++ [UInt8.ofNat (Int.toNat (IntKind.u8.wrap ((IntKind.u8.wrap ((x4).tmod 128)) + 128)))])), .cells 0 [.int .u8 (IntKind.u8.wrap ((IntKind.u8.wrap ((x4).tmod 128)) + 128))]]) (.same (by first | exact ⟨rfl, rfl, trivial⟩ | rfl | (simp only [go_sem, reduceCtorEq, Fits, List.length_append, List.length_cons, List.length_nil, Nat.zero_add, and_self] <;> rfl)) (by first | exact ⟨rfl, rfl, trivial⟩ | rfl | (simp only [go_sem, encB, List.flatMap_append, List.flatMap_cons, List.flatMap_nil, List.append_nil, u8_wrap] <;> rfl))) ?_
     refine rgE tok [0, 3] fun K hK => ?_
     simp only [go_sem, rL, rE, reduceCtorEq, Int.reduceEq]
     refine hK _ _ ?_
     exact ⟨_, _, _, Nat.lt_succ_self (0 + k8), ⟨k8, l2 ++ [UInt8.ofNat (Int.toNat (IntKind.u8.wrap ((IntKind.u8.wrap ((x4).tmod 128)) + 128)))], IntKind.u64.wrap ((x4).tdiv 128), v3 + 1, rfl, rfl, rfl, h⟩, (.t [0] false)⟩
   · skip
     rw [if_neg hc10] at h
     have t15 := eq_false hc10
     refine zx ?_
     refine hZ1 _ _ ?_
     have f16 := conv_int (T := tab) (src := 85) (dst := 5) rfl rfl rfl
     obtain ⟨_u17, hu17, h⟩ := bind_some h
     have gu17 := room_some hu17
     have f18 := (zo E35.len l2)
     refine rg tok [2] fun K hK => ?_
     simp only [go_sem, rL, rD, rE, rM, reduceCtorEq, evBuildSlice, zeroRun, List.range_succ, List.range_zero, true_and, Nat.reduceMod, evAppend, evAppendTo, lenOfAV, t15, f16, gu17, f18, srcCells_o, List.all_nil, List.all_cons, AV.one, Bool.and_self, List.nil_append, List.length_cons, List.length_nil, Nat.zero_add, List.cons_append]
     refine hK _ _ ?_
     refine awp_tellS (L := [(2, .os true 1 0 (v3 + 1) 0 (List.length (l2 ++ [UInt8.ofNat (Int.toNat (IntKind.u8.wrap x4))])) false)]) (τ := [.cells (v3 + 1) (List.flatMap encB (l2 ++ [UInt8.ofNat (Int.toNat (IntKind.u8.wrap x4))])), .cells 0 [.int .u8 (IntKind.u8.wrap x4)]]) (.same (by first | exact ⟨rfl, trivial⟩ | rfl | (simp only [go_sem, Fits, List.length_append, List.length_cons, List.length_nil, Nat.zero_add, and_self] <;> rfl)) (by first | exact ⟨rfl, trivial⟩ | rfl | (simp only [go_sem, encB, List.flatMap_append, List.flatMap_cons, List.flatMap_nil, List.append_nil, u8_wrap] <;> rfl))) ?_
     refine zi ?_
     obtain rfl := Option.some.inj h
     simp only [retQ, resAll, resOne, resAV, exists_eq_left', go_sem, rA]
     refine ⟨0, v3 + 1, by simp, ?_, ?_⟩
     · first | rfl | (simp only [go_sem, rL, rD, rE, rA, rM, rS, reduceIte, reduceCtorEq, push_cast, if_true, List.drop_zero, Nat.zero_add, List.map_cons, List.map_nil, List.map_append, Bool.or_true, Bool.or_false, Bool.and_true, Bool.and_false, Bool.not_true, Bool.not_false, zv] <;> rfl)
     · first | rfl | (simp only [go_sem, push_cast, List.map_nil, zv] <;> rfl)
theorem ref02_Put.ok (a0 : Int) (r : List UInt8) (h : ref02_Put a0 = some r) : ACalls Tryd.prog 117 [.int .u64 a0] [] (fun r' _ => r' = .ds true (List.flatMap encB r) (List.length r) false) :=
 (ref02_Put.own a0 r h).ownData (zo E35.len r) (by simp only [push_cast])
theorem ref02_Put.ev (a0 : Int) (r : List UInt8) (h : ref02_Put a0 = some r) (σ : Store) : ACalls Tryd.prog 117 [.int .u64 a0] σ (fun r' σ' => r' = .ds true (List.flatMap encB r) (List.length r) false ∧ σ' = σ) :=
 (ref02_Put.ok a0 r h).c σ
def ref02_Zig (a0 : Int) : Int :=
 (if 0 ≤ a0 then IntKind.u64.wrap (2 * (IntKind.u64.wrap a0)) else IntKind.u64.wrap ((IntKind.u64.wrap (2 * (IntKind.u64.wrap (IntKind.i64.wrap (0 - (IntKind.i64.wrap (a0 + 1))))))) + 1))
theorem ref02_Zig.ok (a0 : Int) (r : Int) (h : ref02_Zig a0 = r) : ACalls Tryd.prog 118 [.int .i64 a0] [] (fun r' _ => r' = .int .u64 r) := by
 refine zl (rs := [.tmp 2]) tok Tryd.func118 rfl Tryd.ntmps118 rfl Tryd.call118 (by simp) ?_
 refine zm [(0, .int .i64 a0)] ⟨rfl, trivial⟩ ?_
 unfold ref02_Zig at h
 refine rg tok [0] fun K hK => ?_
 simp only [go_sem, rL, reduceCtorEq]
 refine hK _ _ ?_
 refine ze fun Z1 hZ1 => ?_
 refine rg tok [0, 4] fun K hK => ?_
 simp only [go_sem, rL, rE, reduceCtorEq]
 refine hK _ _ ?_
 refine awp_if rfl (fun hc2 => ?_) (fun hc2 => ?_)
 · skip
   rw [if_pos hc2] at h
   have t3 := eq_true hc2
   have f4 := conv_int (T := tab) (src := 3) (dst := 85) rfl rfl rfl
   refine rg tok [2] fun K hK => ?_
   simp only [go_sem, rL, rE, reduceCtorEq, t3, f4]
   refine hK _ _ ?_
   refine zi ?_
   obtain rfl := h
   exact retA
 · skip
   rw [if_neg hc2] at h
   have t5 := eq_false hc2
   refine zh ?_
   refine hZ1 _ _ ?_
   have f6 := conv_int (T := tab) (src := 3) (dst := 85) rfl rfl rfl
   refine rg tok [2] fun K hK => ?_
   simp only [go_sem, rL, rE, reduceCtorEq, t5, f6]
   refine hK _ _ ?_
   refine zi ?_
   obtain rfl := h
   exact retA
theorem ref02_Zig.ev (a0 : Int) (r : Int) (h : ref02_Zig a0 = r) (σ : Store) : ACalls Tryd.prog 118 [.int .i64 a0] σ (fun r' σ' => r' = .int .u64 r ∧ σ' = σ) :=
 (ref02_Zig.ok a0 r h).c σ
def ref04_Put (a0 : GRaw) : Option (List UInt8) :=
 (ref02_Put (IntKind.u64.wrap (IntKind.i64.wrap ((IntKind.i64.wrap (2 * a0.fTag)) + a0.fWire)))).bind fun r2 => (if a0.fWire = 0 then bnd (ref02_Zig a0.fN) fun r6 => (ref02_Put r6).bind fun r7 => (room (List.length r2 + List.length r7) 1).bind fun _u9 => some (r2 ++ r7) else (ref02_Put (IntKind.u64.wrap (List.length a0.fB : Int))).bind fun r13 => (room (List.length r2 + List.length r13) 1).bind fun _u15 => (room (List.length (r2 ++ r13) + List.length a0.fB) 1).bind fun _u17 => some ((r2 ++ r13) ++ a0.fB))
theorem ref04_Put.own (a0 : GRaw) (r : List UInt8) (h : ref04_Put a0 = some r) : ACalls Tryd.prog 94 [.agg (encGRaw a0)] [] (fun r' σ' => r' = .os true 1 0 0 0 (List.length r) false ∧ σ' = [.cells 0 (List.flatMap encB r)]) := by
 refine ACalls.own0 (by simp only [push_cast]) ?_
 refine acalls_own (rs := [.tmp 2]) tok Tryd.func94 rfl Tryd.ntmps94 rfl Tryd.call94 (by simp) ?_
 refine zm [(0, .agg (encGRaw a0))] ⟨rfl, trivial⟩ ?_
 unfold ref04_Put at h
 refine rg tok [1] fun K hK => ?_
 simp only [go_sem, rL, rE, rA, reduceCtorEq, encGRaw]
 refine hK _ _ ?_
 refine rc [1, 3] fun K hK => ?_
 have f1 := conv_int (T := tab) (src := 3) (dst := 85) rfl rfl rfl
 obtain ⟨r2, hr2, h⟩ := bind_some h
 refine za tok 7 ?_
 simp only [go_sem, rL, rE, rA, f1]
 refine zf rfl rfl rfl (@id (ACalls Tryd.prog 117 [.int .u64 (IntKind.u64.wrap (IntKind.i64.wrap ((IntKind.i64.wrap (2 * a0.fTag)) + a0.fWire)))] [.cells 0 [.int .i64 a0.fTag, .int .i64 a0.fWire, .int .i64 a0.fN, .str a0.fB]] (fun r' σ' => r' = .os true 1 1 0 0 (List.length r2) false ∧ σ' = [.cells 0 [.int .i64 a0.fTag, .int .i64 a0.fWire, .int .i64 a0.fN, .str a0.fB], .cells 0 (List.flatMap encB r2)])) ((ref02_Put.own (IntKind.u64.wrap (IntKind.i64.wrap ((IntKind.i64.wrap (2 * a0.fTag)) + a0.fWire))) r2 hr2).ownAt0 (by simp only [push_cast]) (by simp only [push_cast]) _)) ?_
 rintro _ _ ⟨rfl, rfl⟩
 refine za tok 1 ?_
 simp only [go_sem, rL, rE]
 refine zb ?_
 simp only [zd, upd, rE, reduceIte, zk, fs_nil]
 refine hK _ _ ?_
 refine ze fun Z3 hZ3 => ?_
 refine rg tok [1, 3, 14] fun K hK => ?_
 simp only [go_sem, rL, rE, rA]
 refine hK _ _ ?_
 refine awp_if rfl (fun hc4 => ?_) (fun hc4 => ?_)
 · skip
   rw [if_pos hc4] at h
   have t5 := eq_true hc4
   refine rc [2] fun K hK => ?_
   obtain ⟨r6, hr6, h⟩ := bnd_elim h
   refine za tok 3 ?_
   simp only [go_sem, rL, rE, rA, t5]
   refine zf rfl rfl rfl (ref02_Zig.ev a0.fN r6 hr6 _) ?_
   rintro _ _ ⟨rfl, rfl⟩
   obtain ⟨r7, hr7, h⟩ := bind_some h
   refine zf rfl rfl rfl (ref02_Put.ev r6 r7 hr7 _) ?_
   rintro _ _ ⟨rfl, rfl⟩
   have f8 := fun nl tt σ => srcCells_enc E35.len r7 nl tt σ
   obtain ⟨_u9, hu9, h⟩ := bind_some h
   have gu9 := room_some hu9
   have f10 := (zo E35.len r2)
   refine za tok 2 ?_
   simp only [go_sem, rL, rE, evAppend, evAppendTo, lenOfAV, true_and, f8, gu9, f10, ones_all, Nat.zero_add]
   refine zb ?_
   simp only [zd, upd, rE, reduceIte, zk, fs_nil]
   refine hK _ _ ?_
   refine awp_tellS (L := [(2, .os true 1 1 (0 + 1) 0 (List.length (r2 ++ r7)) false)]) (τ := [.cells 0 [.int .i64 a0.fTag, .int .i64 a0.fWire, .int .i64 a0.fN, .str a0.fB], .cells (0 + 1) (List.flatMap encB (r2 ++ r7))]) .s ?_
   refine zi ?_
   obtain rfl := Option.some.inj h
   simp only [retQ, resAll, resOne, resAV, exists_eq_left', go_sem, rA]
   refine ⟨1, 0 + 1, by simp, ?_, ?_⟩
   · first | rfl | (simp only [go_sem, rL, rD, rE, rA, rM, rS, reduceIte, reduceCtorEq, push_cast, if_true, List.drop_zero, Nat.zero_add, List.map_cons, List.map_nil, List.map_append, Bool.or_true, Bool.or_false, Bool.and_true, Bool.and_false, Bool.not_true, Bool.not_false, zv] <;> rfl)
   · first | rfl | (simp only [go_sem, push_cast, Nat.zero_add, List.map_nil, zv] <;> rfl)
 · skip
   rw [if_neg hc4] at h
   have t11 := eq_false hc4
   refine zh ?_
   refine hZ3 _ _ ?_
   refine rc [1, 3] fun K hK => ?_
   have f12 := conv_int (T := tab) (src := 3) (dst := 85) rfl rfl rfl
   obtain ⟨r13, hr13, h⟩ := bind_some h
   refine za tok 5 ?_
   simp only [go_sem, rL, rE, rA, t11, f12]
   refine zf rfl rfl rfl (ref02_Put.ev (IntKind.u64.wrap (List.length a0.fB : Int)) r13 hr13 _) ?_
   rintro _ _ ⟨rfl, rfl⟩
   have f14 := fun nl tt σ => srcCells_enc E35.len r13 nl tt σ
   obtain ⟨_u15, hu15, h⟩ := bind_some h
   have gu15 := room_some hu15
   have f16 := (zo E35.len r2)
   refine za tok 2 ?_
   simp only [go_sem, rL, rE, evAppend, evAppendTo, lenOfAV, true_and, f14, gu15, f16, ones_all, Nat.zero_add]
   refine zb ?_
   simp only [zd, upd, rE, reduceIte, zk, fs_nil]
   refine hK _ _ ?_
   refine awp_tellS (L := [(1, .op 0 0 0), (3, .os true 1 1 (0 + 1) 0 (List.length (r2 ++ r13)) false)]) (τ := [.cells 0 [.int .i64 a0.fTag, .int .i64 a0.fWire, .int .i64 a0.fN, .str a0.fB], .cells (0 + 1) (List.flatMap encB (r2 ++ r13))]) .s ?_
   obtain ⟨_u17, hu17, h⟩ := bind_some h
   have gu17 := room_some hu17
   first | simp only [List.length_append] at gu17 | skip
   have f18 := (zo E35.len (r2 ++ r13))
   simp only [List.flatMap_append, List.length_append] at f18
   refine rg tok [2] fun K hK => ?_
   simp only [go_sem, rL, rE, rA, evAppend, evAppendTo, lenOfAV, true_and, gu17, f18, srcCells_s, bys_flatMap, ones_all, List.flatMap_append, List.length_append, List.length_cons, List.length_nil, Nat.zero_add, List.append_assoc]
   refine hK _ _ ?_
   refine awp_tellS (L := [(2, .os true 1 1 (0 + 1 + 1) 0 (List.length ((r2 ++ r13) ++ a0.fB)) false)]) (τ := [.cells 0 [.int .i64 a0.fTag, .int .i64 a0.fWire, .int .i64 a0.fN, .str a0.fB], .cells (0 + 1 + 1) (List.flatMap encB ((r2 ++ r13) ++ a0.fB))]) .s ?_
   refine zi ?_
   obtain rfl := Option.some.inj h
   simp only [retQ, resAll, resOne, resAV, exists_eq_left', go_sem, rA]
   refine ⟨1, 0 + 1 + 1, by simp, ?_, ?_⟩
   · first | rfl | (simp only [go_sem, rL, rD, rE, rA, rM, rS, reduceIte, reduceCtorEq, push_cast, if_true, List.drop_zero, Nat.zero_add, List.map_cons, List.map_nil, List.map_append, Bool.or_true, Bool.or_false, Bool.and_true, Bool.and_false, Bool.not_true, Bool.not_false, zv] <;> rfl)
   · first | rfl | (simp only [go_sem, rA, push_cast, Nat.zero_add, List.map_nil, zv] <;> rfl)
theorem ref04_Put.ok (a0 : GRaw) (r : List UInt8) (h : ref04_Put a0 = some r) : ACalls Tryd.prog 94 [.agg (encGRaw a0)] [] (fun r' _ => r' = .ds true (List.flatMap encB r) (List.length r) false) :=
 (ref04_Put.own a0 r h).ownData (zo E35.len r) (by simp only [push_cast])
theorem ref04_Put.ev (a0 : GRaw) (r : List UInt8) (h : ref04_Put a0 = some r) (σ : Store) : ACalls Tryd.prog 94 [.agg (encGRaw a0)] σ (fun r' σ' => r' = .ds true (List.flatMap encB r) (List.length r) false ∧ σ' = σ) :=
 (ref04_Put.ok a0 r h).c σ
def ref04_PutAll.l13 : List GRaw → Int → List UInt8 → Option (List UInt8 × Int)
 | [], x9, l7 => some (l7, 0)
 | y13 :: q13, x9, l7 => (ref04_Put y13).bind fun r19 => (room (List.length l7 + List.length r19) 1).bind fun _u21 => (if 4096 < (List.length (l7 ++ r19) : Int) then some (([] : List UInt8), 4) else ((ref04_PutAll.l13 q13) (x9 + 1) (l7 ++ r19)))
def ref04_PutAll.l4 (a0 : List GRaw) : List GRaw → Int → Option (List UInt8 × Int)
 | [], x2 => (ref04_PutAll.l13 a0 0 ([] : List UInt8))
 | y4 :: q4, x2 => bnd (ref04_Check y4) fun r30 => (if (!r30) = true then some (([] : List UInt8), 1) else ((ref04_PutAll.l4 a0 q4) (x2 + 1)))
def ref04_PutAll (a0 : List GRaw) : Option (List UInt8 × Int) :=
 (ref04_PutAll.l4 a0 a0 0)
theorem ref04_PutAll.ok (a0 : List GRaw) (r : List UInt8 × Int) (h : ref04_PutAll a0 = some r) : ACalls Tryd.prog 64 [.ds true (List.flatMap encGRaw a0) (List.length a0) false] [] (fun r' _ => r' = .tup [.ds true (List.flatMap encB r.1) (List.length r.1) false, .int .i64 r.2]) := by
 refine zl (rs := [.tmp 2, .tmp 3]) tok Tryd.func64 rfl Tryd.ntmps64 rfl Tryd.call64 (by simp) ?_
 refine zm [(0, .ds true (List.flatMap encGRaw a0) (List.length a0) false)] ⟨rfl, trivial⟩ ?_
 unfold ref04_PutAll at h
 refine rg tok [0] fun K hK => ?_
 simp only [go_sem, rL, reduceCtorEq]
 refine hK _ _ ?_
 refine rg tok [0, 4] fun K hK => ?_
 simp only [go_sem, rL, reduceCtorEq]
 refine hK _ _ ?_
 refine awp_virtS 4 1 rfl ?_
 refine awp_tellS (L := [(0, .ds true (List.flatMap encGRaw a0) (List.length a0) false), (4, .os true 1 0 0 0 (List.length ([] : List UInt8)) false)]) (τ := [.cells 0 (List.flatMap encB ([] : List UInt8))]) .s ?_
 refine ze fun Z1 hZ1 => ?_
 refine rg tok [0, 4, 5] fun K hK => ?_
 simp only [go_sem, rL, rE, reduceCtorEq]
 refine hK _ _ ?_
 refine zj ?_
 refine awp_deep 0 fun hb4 => ?_
 replace hb4 : List.length a0 ≤ 9223372036854775807 := hb4.1
 refine zt (fun m L τ => ∃ (p4 q4 : List GRaw) (x2 : Int), m = List.length q4 ∧ L = ([(0, .ds true (List.flatMap encGRaw a0) (List.length a0) false), (4, .os true 1 0 0 0 (List.length ([] : List UInt8)) false), (5, .int .i64 x2)] : List (Nat × AV)) ∧ τ = ([.cells 0 (List.flatMap encB ([] : List UInt8))] : Store) ∧ a0 = p4 ++ q4 ∧ x2 = (List.length p4 : Int) ∧ ref04_PutAll.l4 a0 q4 x2 = some r) _ ⟨[], a0, 0, rfl, rfl, rfl, rfl, rfl, h⟩ .s ?_
 rintro m L τ ⟨p4, q4, x2, rfl, rfl, rfl, hE4, hi4, h⟩
 rcases q4 with _ | ⟨y4, q4⟩
 · have hz4 := zip_nil hE4 hi4
   simp only [ref04_PutAll.l4] at h
   refine ze fun Z5 hZ5 => ?_
   refine rg tok [0, 4, 5, 10] fun K hK => ?_
   simp only [go_sem, rL, rE, reduceCtorEq, hz4]
   refine hK _ _ ?_
   refine zp rfl ?_
   refine zx ?_
   refine hZ1 _ _ ?_
   refine ze fun Z6 hZ6 => ?_
   refine rg tok [0, 4, 6] fun K hK => ?_
   simp only [go_sem, rL, rE, reduceCtorEq]
   refine hK _ _ ?_
   refine zj ?_
   refine awp_deep 0 fun hb13 => ?_
   replace hb13 : List.length a0 ≤ 9223372036854775807 := hb13.1
   refine zt (fun m L τ => ∃ (p13 q13 : List GRaw) (x9 : Int) (l7 : List UInt8) (v8 : Nat), m = List.length q13 ∧ L = ([(0, .ds true (List.flatMap encGRaw a0) (List.length a0) false), (4, .os true 1 0 v8 0 (List.length l7) false), (6, .int .i64 x9)] : List (Nat × AV)) ∧ τ = ([.cells v8 (List.flatMap encB l7)] : Store) ∧ a0 = p13 ++ q13 ∧ x9 = (List.length p13 : Int) ∧ ref04_PutAll.l13 q13 x9 l7 = some r) _ ⟨[], a0, 0, ([] : List UInt8), 0, rfl, rfl, rfl, rfl, rfl, h⟩ .s ?_
   rintro m L τ ⟨p13, q13, x9, l7, v8, rfl, rfl, rfl, hE13, hi13, h⟩
   rcases q13 with _ | ⟨y13, q13⟩
   · have hz13 := zip_nil hE13 hi13
     simp only [ref04_PutAll.l13] at h
     refine ze fun Z14 hZ14 => ?_
     refine rg tok [0, 4, 6, 22] fun K hK => ?_
     simp only [go_sem, rL, rE, reduceCtorEq, hz13]
     refine hK _ _ ?_
     refine zp rfl ?_
     refine zx ?_
     refine hZ6 _ _ ?_
     refine rg tok [2, 3] fun K hK => ?_
     simp only [go_sem, rL, rE, reduceCtorEq]
     refine hK _ _ ?_
     refine zi ?_
     obtain rfl := Option.some.inj h
     exact retA
   · obtain ⟨hz13, hw13, hx13, hE'13, hi'13⟩ := zip_cons hE13 hi13 hb13
     simp only [ref04_PutAll.l13] at h
     refine ze fun Z15 hZ15 => ?_
     refine rg tok [0, 4, 6, 22] fun K hK => ?_
     simp only [go_sem, rL, rE, reduceCtorEq, hz13]
     refine hK _ _ ?_
     refine zr rfl ?_
     refine zh ?_
     refine hZ15 _ _ ?_
     refine ze fun Z16 hZ16 => ?_
     refine zj ?_
     refine rc [0, 4, 6] fun K hK => ?_
     have f17 := E22.idxS hx13
     have f18 := E22.loadS rfl rfl hx13
     obtain ⟨r19, hr19, h⟩ := bind_some h
     refine za tok 5 ?_
     simp only [go_sem, rL, rE, reduceCtorEq, encGRaw, f17, f18]
     refine zf rfl rfl rfl (ref04_Put.ev y13 r19 hr19 _) ?_
     rintro _ _ ⟨rfl, rfl⟩
     have f20 := fun nl tt σ => srcCells_enc E35.len r19 nl tt σ
     obtain ⟨_u21, hu21, h⟩ := bind_some h
     have gu21 := room_some hu21
     have f22 := (zo E35.len l7)
     refine za tok 2 ?_
     simp only [go_sem, rL, rE, reduceCtorEq, evAppend, evAppendTo, lenOfAV, true_and, f20, gu21, f22, ones_all]
     refine zb ?_
     simp only [zd, upd, rE, reduceIte, zk, fs_nil]
     refine hK _ _ ?_
     refine awp_tellS (L := [(0, .ds true (List.flatMap encGRaw a0) (List.length a0) false), (4, .os true 1 0 (v8 + 1) 0 (List.length (l7 ++ r19)) false), (6, .int .i64 x9)]) (τ := [.cells (v8 + 1) (List.flatMap encB (l7 ++ r19))]) .s ?_
     refine rg tok [0, 4, 6, 34] fun K hK => ?_
     simp only [go_sem, rL, rE, reduceCtorEq]
     refine hK _ _ ?_
     refine awp_if rfl (fun hc23 => ?_) (fun hc23 => ?_)
     · skip
       rw [if_pos hc23] at h
       have t24 := eq_true hc23
       refine rg tok [2, 3] fun K hK => ?_
       simp only [go_sem, rL, rE, reduceCtorEq, t24]
       refine hK _ _ ?_
       refine zi ?_
       obtain rfl := Option.some.inj h
       exact retA
     · skip
       rw [if_neg hc23] at h
       have t25 := eq_false hc23
       refine zh ?_
       refine hZ16 _ _ ?_
       refine rgE tok [0, 4, 6] fun K hK => ?_
       simp only [go_sem, rL, rE, reduceCtorEq, hw13, t25]
       refine hK _ _ ?_
       exact ⟨_, _, _, Nat.lt_succ_self q13.length, ⟨p13 ++ [y13], q13, x9 + 1, l7 ++ r19, v8 + 1, rfl, rfl, rfl, hE'13, hi'13, h⟩, .s⟩
 · obtain ⟨hz4, hw4, hx4, hE'4, hi'4⟩ := zip_cons hE4 hi4 hb4
   simp only [ref04_PutAll.l4] at h
   refine ze fun Z26 hZ26 => ?_
   refine rg tok [0, 4, 5, 10] fun K hK => ?_
   simp only [go_sem, rL, rE, reduceCtorEq, hz4]
   refine hK _ _ ?_
   refine zr rfl ?_
   refine zh ?_
   refine hZ26 _ _ ?_
   refine ze fun Z27 hZ27 => ?_
   refine zj ?_
   refine rc [0, 4, 5, 18] fun K hK => ?_
   have f28 := E22.idxS hx4
   have f29 := E22.loadS rfl rfl hx4
   obtain ⟨r30, hr30, h⟩ := bnd_elim h
   refine za tok 4 ?_
   simp only [go_sem, rL, rE, reduceCtorEq, encGRaw, f28, f29]
   refine zf rfl rfl rfl (ref04_Check.ev y4 r30 hr30 _) ?_
   rintro _ _ ⟨rfl, rfl⟩
   refine za tok 1 ?_
   simp only [go_sem, rL, rE, reduceCtorEq]
   refine zb ?_
   simp only [zd, upd, rE, reduceIte, zk, fs_nil]
   refine hK _ _ ?_
   refine zw (b := (!r30)) rfl (fun hc31 => ?_) (fun hc31 => ?_)
   · skip
     rw [if_pos hc31] at h
     refine rg tok [2, 3] fun K hK => ?_
     simp only [go_sem, rL, rE, reduceCtorEq]
     refine hK _ _ ?_
     refine zi ?_
     obtain rfl := Option.some.inj h
     exact retA
   · skip
     rw [if_F hc31] at h
     refine zh ?_
     refine hZ27 _ _ ?_
     refine rgE tok [0, 4, 5] fun K hK => ?_
     simp only [go_sem, rL, rE, reduceCtorEq, hw4]
     refine hK _ _ ?_
     exact ⟨_, _, _, Nat.lt_succ_self q4.length, ⟨p4 ++ [y4], q4, x2 + 1, rfl, rfl, rfl, hE'4, hi'4, h⟩, .s⟩
theorem ref04_PutAll.ev (a0 : List GRaw) (r : List UInt8 × Int) (h : ref04_PutAll a0 = some r) (σ : Store) : ACalls Tryd.prog 64 [.ds true (List.flatMap encGRaw a0) (List.length a0) false] σ (fun r' σ' => r' = .tup [.ds true (List.flatMap encB r.1) (List.length r.1) false, .int .i64 r.2] ∧ σ' = σ) :=
 (ref04_PutAll.ok a0 r h).c σ
def ref11_encode.body (self_ref11_encode : GTree → Option (List UInt8 × Int)) (self_ref11_raws : GTree → Option (List GRaw × Int)) (a0 : GTree) : Option (List UInt8 × Int) :=
 (self_ref11_raws a0).bind fun r1 => (if r1.2 = 0 then (ref04_PutAll r1.1).bind fun r6 => some (r6.1, r6.2) else some (([] : List UInt8), r1.2))
theorem ref11_encode.step (self_ref11_encode : GTree → Option (List UInt8 × Int)) (self_ref11_raws : GTree → Option (List GRaw × Int)) (ih_ref11_encode : ∀ (a0 : GTree) (r : List UInt8 × Int), self_ref11_encode a0 = some r → ACalls Tryd.prog 37 [.agg (cellsGTree a0)] [] (fun r' _ => r' = .tup [.ds true (List.flatMap encB r.1) (List.length r.1) false, .int .i64 r.2])) (ih_ref11_raws : ∀ (a0 : GTree) (r : List GRaw × Int), self_ref11_raws a0 = some r → ACalls Tryd.prog 63 [.agg (cellsGTree a0)] [] (fun r' _ => r' = .tup [.ds true (List.flatMap encGRaw r.1) (List.length r.1) false, .int .i64 r.2])) (a0 : GTree) (r : List UInt8 × Int) (h : ref11_encode.body self_ref11_encode self_ref11_raws a0 = some r) : ACalls Tryd.prog 37 [.agg (cellsGTree a0)] [] (fun r' _ => r' = .tup [.ds true (List.flatMap encB r.1) (List.length r.1) false, .int .i64 r.2]) := by
 have ev_ref11_encode := fun a0 r h σ => (ih_ref11_encode a0 r h).c σ
 have ev_ref11_raws := fun a0 r h σ => (ih_ref11_raws a0 r h).c σ
 refine zl (rs := [.tmp 2, .tmp 3]) tok Tryd.func37 rfl Tryd.ntmps37 rfl Tryd.call37 (by simp) ?_
 refine zm [(0, .agg (cellsGTree a0))] ⟨rfl, trivial⟩ ?_
 unfold ref11_encode.body at h
 refine rg tok [1] fun K hK => ?_
 simp only [go_sem, rL, rE, rA, reduceCtorEq, cellsGTree]
 refine hK _ _ ?_
 refine rc [4, 5] fun K hK => ?_
 obtain ⟨r1, hr1, h⟩ := bind_some h
 refine za tok 1 ?_
 simp only [go_sem, rL, rD, rA]
 refine zf rfl rfl rfl (ev_ref11_raws a0 r1 hr1 _) ?_
 rintro _ _ ⟨rfl, rfl⟩
 refine za tok 5 ?_
 simp only [go_sem, rL, rE, rA]
 refine zb ?_
 simp only [zd, upd, rE, reduceIte, zk, fs_nil]
 refine hK _ _ ?_
 refine ze fun Z2 hZ2 => ?_
 refine rg tok [4, 5, 12] fun K hK => ?_
 simp only [go_sem, rL, rE]
 refine hK _ _ ?_
 refine awp_if rfl (fun hc3 => ?_) (fun hc3 => ?_)
 · skip
   rw [if_neg hc3] at h
   have t4 := eq_false hc3
   refine rg tok [2, 3] fun K hK => ?_
   simp only [go_sem, rL, rE, t4]
   refine hK _ _ ?_
   refine zi ?_
   obtain rfl := Option.some.inj h
   exact retA
 · skip
   rw [if_pos hc3] at h
   have t5 := eq_true hc3
   refine zh ?_
   refine hZ2 _ _ ?_
   refine rc [2, 3] fun K hK => ?_
   obtain ⟨r6, hr6, h⟩ := bind_some h
   refine za tok 1 ?_
   simp only [go_sem, rL, rE, t5]
   refine zf rfl rfl rfl (ref04_PutAll.ev r1.1 r6 hr6 _) ?_
   rintro _ _ ⟨rfl, rfl⟩
   refine za tok 4 ?_
   simp only [go_sem, rL, rE, rA]
   refine zb ?_
   simp only [zd, upd, rE, reduceIte, zk, fs_nil]
   refine hK _ _ ?_
   refine zi ?_
   obtain rfl := Option.some.inj h
   exact retA
def ref11_raws.j37 (x18 : Int) (l16 : List GRaw) (rec22 : Int → List GRaw → Option (List GRaw × Int)) (m2_36 : GRaw) : Option (List GRaw × Int) :=
 (if 4096 < (List.length m2_36.fB : Int) then some (([] : List GRaw), 4) else (room (List.length l16 + 1) 40).bind fun _u42 => (rec22 (x18 + 1) (l16 ++ [m2_36])))
def ref11_raws.l22 (self_ref11_encode : GTree → Option (List UInt8 × Int)) (x4 : Int) (rec8 : Int → List GRaw → Option (List GRaw × Int)) (y8 : GEntry) : List GTree → Int → List GRaw → Option (List GRaw × Int)
 | [], x18, l16 => (rec8 (x4 + 1) l16)
 | y22 :: q22, x18, l16 => (if y22.fKind = 1 then (ref11_raws.j37 x18 l16 (ref11_raws.l22 self_ref11_encode x4 rec8 y8 q22) (⟨y8.fTag, 0, y22.fN, []⟩ : GRaw)) else (if y22.fKind = 2 then (ref11_raws.j37 x18 l16 (ref11_raws.l22 self_ref11_encode x4 rec8 y8 q22) (⟨y8.fTag, 1, 0, y22.fS⟩ : GRaw)) else (self_ref11_encode y22).bind fun r50 => (if r50.2 = 0 then (ref11_raws.j37 x18 l16 (ref11_raws.l22 self_ref11_encode x4 rec8 y8 q22) (⟨y8.fTag, 1, 0, r50.1⟩ : GRaw)) else some (([] : List GRaw), r50.2))))
def ref11_raws.l8 (self_ref11_encode : GTree → Option (List UInt8 × Int)) (a0 : GTree) : List GEntry → Int → List GRaw → Option (List GRaw × Int)
 | [], x4, l2 => (room (List.length l2 + List.length a0.fRest) 40).bind fun _u11 => (ref04_Sorted (l2 ++ a0.fRest)).bind fun r13 => some (r13, 0)
 | y8 :: q8, x4, l2 => (ref11_raws.l22 self_ref11_encode x4 (ref11_raws.l8 self_ref11_encode a0 q8) y8 y8.fTrees 0 l2)
def ref11_raws.body (self_ref11_encode : GTree → Option (List UInt8 × Int)) (self_ref11_raws : GTree → Option (List GRaw × Int)) (a0 : GTree) : Option (List GRaw × Int) :=
 (ref11_raws.l8 self_ref11_encode a0 a0.fEntries 0 ([] : List GRaw))
theorem ref11_raws.step (self_ref11_encode : GTree → Option (List UInt8 × Int)) (self_ref11_raws : GTree → Option (List GRaw × Int)) (ih_ref11_encode : ∀ (a0 : GTree) (r : List UInt8 × Int), self_ref11_encode a0 = some r → ACalls Tryd.prog 37 [.agg (cellsGTree a0)] [] (fun r' _ => r' = .tup [.ds true (List.flatMap encB r.1) (List.length r.1) false, .int .i64 r.2])) (ih_ref11_raws : ∀ (a0 : GTree) (r : List GRaw × Int), self_ref11_raws a0 = some r → ACalls Tryd.prog 63 [.agg (cellsGTree a0)] [] (fun r' _ => r' = .tup [.ds true (List.flatMap encGRaw r.1) (List.length r.1) false, .int .i64 r.2])) (a0 : GTree) (r : List GRaw × Int) (h : ref11_raws.body self_ref11_encode self_ref11_raws a0 = some r) : ACalls Tryd.prog 63 [.agg (cellsGTree a0)] [] (fun r' _ => r' = .tup [.ds true (List.flatMap encGRaw r.1) (List.length r.1) false, .int .i64 r.2]) := by
 have ev_ref11_encode := fun a0 r h σ => (ih_ref11_encode a0 r h).c σ
 have ev_ref11_raws := fun a0 r h σ => (ih_ref11_raws a0 r h).c σ
 refine zl (rs := [.tmp 2, .tmp 3]) tok Tryd.func63 rfl Tryd.ntmps63 rfl Tryd.call63 (by simp) ?_
 refine zm [(0, .agg (cellsGTree a0))] ⟨rfl, trivial⟩ ?_
 unfold ref11_raws.body at h
 refine rg tok [1] fun K hK => ?_
 simp only [go_sem, rL, rE, rA, reduceCtorEq, cellsGTree]
 refine hK _ _ ?_
 refine rg tok [1, 4] fun K hK => ?_
 simp only [go_sem, rL, rE]
 refine hK _ _ ?_
 refine awp_virtS 4 4 rfl ?_
 refine awp_tellS (L := [(1, .op 0 0 0), (4, .os true 4 1 0 0 (List.length ([] : List GRaw)) false)]) (τ := [.cells 0 [.int .i64 a0.fKind, .int .i64 a0.fN, .str a0.fS, .ds true (List.flatMap encGEntry a0.fEntries) (List.length a0.fEntries) false, .ds true (List.flatMap encGRaw a0.fRest) (List.length a0.fRest) false], .cells 0 (List.flatMap encGRaw ([] : List GRaw))]) .s ?_
 refine ze fun Z1 hZ1 => ?_
 refine rg tok [1, 4, 5] fun K hK => ?_
 simp only [go_sem, rL, rE]
 refine hK _ _ ?_
 refine zj ?_
 refine awp_deepS 0 rfl fun hb8 => ?_
 replace hb8 : List.length a0.fEntries ≤ 9223372036854775807 := hb8.2.2.2.1.1
 refine zt (fun m L τ => ∃ (p8 q8 : List GEntry) (x4 : Int) (l2 : List GRaw) (v3 : Nat), m = List.length q8 ∧ L = ([(1, .op 0 0 0), (4, .os true 4 1 v3 0 (List.length l2) false), (5, .int .i64 x4)] : List (Nat × AV)) ∧ τ = ([.cells 0 [.int .i64 a0.fKind, .int .i64 a0.fN, .str a0.fS, .ds true (List.flatMap encGEntry a0.fEntries) (List.length a0.fEntries) false, .ds true (List.flatMap encGRaw a0.fRest) (List.length a0.fRest) false], .cells v3 (List.flatMap encGRaw l2)] : Store) ∧ a0.fEntries = p8 ++ q8 ∧ x4 = (List.length p8 : Int) ∧ ref11_raws.l8 self_ref11_encode a0 q8 x4 l2 = some r) _ ⟨[], a0.fEntries, 0, ([] : List GRaw), 0, rfl, rfl, rfl, rfl, rfl, h⟩ .s ?_
 rintro m L τ ⟨p8, q8, x4, l2, v3, rfl, rfl, rfl, hE8, hi8, h⟩
 rcases q8 with _ | ⟨y8, q8⟩
 · have hz8 := zip_nil hE8 hi8
   simp only [ref11_raws.l8] at h
   refine ze fun Z9 hZ9 => ?_
   refine rg tok [1, 4, 5, 15] fun K hK => ?_
   simp only [go_sem, rL, rE, rA, hz8]
   refine hK _ _ ?_
   refine zp rfl ?_
   refine zx ?_
   refine hZ1 _ _ ?_
   refine rc [2, 3] fun K hK => ?_
   have f10 := fun nl tt σ => srcCells_enc E22.len a0.fRest nl tt σ
   obtain ⟨_u11, hu11, h⟩ := bind_some h
   have gu11 := room_some hu11
   have f12 := (zo E22.len l2)
   obtain ⟨r13, hr13, h⟩ := bind_some h
   refine za tok 4 ?_
   simp only [go_sem, rL, rE, rA, evAppend, evAppendTo, lenOfAV, true_and, f10, gu11, f12, ones_all, List.length_cons, List.length_nil, Nat.zero_add]
   refine ops_tellS (L := [(80, .ds true (List.flatMap encGRaw (l2 ++ a0.fRest)) (List.length (l2 ++ a0.fRest)) false)]) (τ := []) (.t [] false) ?_
   refine zf rfl rfl rfl (ref04_Sorted.ev (l2 ++ a0.fRest) r13 hr13 _) ?_
   rintro _ _ ⟨rfl, rfl⟩
   refine za tok 2 ?_
   simp only [go_sem, rL, rE]
   refine zb ?_
   simp only [zd, upd, rE, reduceIte, zk, fs_nil]
   refine hK _ _ ?_
   refine awp_tellS (L := [(2, .ds true (List.flatMap encGRaw r13) (List.length r13) false), (3, .int .i64 0)]) (τ := []) .s ?_
   refine zi ?_
   obtain rfl := Option.some.inj h
   exact retA
 · obtain ⟨hz8, hw8, hx8, hE'8, hi'8⟩ := zip_cons hE8 hi8 hb8
   simp only [ref11_raws.l8] at h
   refine ze fun Z14 hZ14 => ?_
   refine rg tok [1, 4, 5, 15] fun K hK => ?_
   simp only [go_sem, rL, rE, rA, hz8]
   refine hK _ _ ?_
   refine zr rfl ?_
   refine zh ?_
   refine hZ14 _ _ ?_
   refine ze fun Z15 hZ15 => ?_
   refine zj ?_
   refine rg tok [1, 4, 5, 6] fun K hK => ?_
   simp only [go_sem, rL, rE]
   refine hK _ _ ?_
   refine zj ?_
   refine awp_deepS 0 rfl fun hb22 => ?_
   replace hb22 := deepL_idx hb22.2.2.2.1.2 hx8
   rw [zy] at hb22
   replace hb22 : List.length y8.fTrees ≤ 9223372036854775807 := hb22.2.1.1
   refine zt (fun m L τ => ∃ (p22 q22 : List GTree) (x18 : Int) (l16 : List GRaw) (v17 : Nat), m = List.length q22 ∧ L = ([(1, .op 0 0 0), (4, .os true 4 1 v17 0 (List.length l16) false), (5, .int .i64 x4), (6, .int .i64 x18)] : List (Nat × AV)) ∧ τ = ([.cells 0 [.int .i64 a0.fKind, .int .i64 a0.fN, .str a0.fS, .ds true (List.flatMap encGEntry a0.fEntries) (List.length a0.fEntries) false, .ds true (List.flatMap encGRaw a0.fRest) (List.length a0.fRest) false], .cells v17 (List.flatMap encGRaw l16)] : Store) ∧ y8.fTrees = p22 ++ q22 ∧ x18 = (List.length p22 : Int) ∧ ref11_raws.l22 self_ref11_encode x4 (ref11_raws.l8 self_ref11_encode a0 q8) y8 q22 x18 l16 = some r) _ ⟨[], y8.fTrees, 0, l2, v3, rfl, rfl, rfl, rfl, rfl, h⟩ .s ?_
   rintro m L τ ⟨p22, q22, x18, l16, v17, rfl, rfl, rfl, hE22, hi22, h⟩
   rcases q22 with _ | ⟨y22, q22⟩
   · have hz22 := zip_nil hE22 hi22
     simp only [ref11_raws.l22] at h
     refine ze fun Z23 hZ23 => ?_
     have f24 := E40.idxS hx8
     have f25 := E40.fldS (f := 59) rfl rfl hx8 (o := 1) (by decide)
     refine rg tok [1, 4, 5, 6, 26] fun K hK => ?_
     simp only [go_sem, rL, rE, rA, cellsGEntry, zy, hz22, f24, f25]
     refine hK _ _ ?_
     refine zp rfl ?_
     refine zx ?_
     refine hZ15 _ _ ?_
     refine rgE tok [1, 4, 5] fun K hK => ?_
     simp only [go_sem, rL, rE, hw8]
     refine hK _ _ ?_
     exact ⟨_, _, _, Nat.lt_succ_self q8.length, ⟨p8 ++ [y8], q8, x4 + 1, l16, v17, rfl, rfl, rfl, hE'8, hi'8, h⟩, .s⟩
   · obtain ⟨hz22, hw22, hx22, hE'22, hi'22⟩ := zip_cons hE22 hi22 hb22
     simp only [ref11_raws.l22] at h
     refine ze fun Z26 hZ26 => ?_
     have f27 := E40.idxS hx8
     have f28 := E40.fldS (f := 59) rfl rfl hx8 (o := 1) (by decide)
     refine rg tok [1, 4, 5, 6, 26] fun K hK => ?_
     simp only [go_sem, rL, rE, rA, cellsGEntry, zy, hz22, f27, f28]
     refine hK _ _ ?_
     refine zr rfl ?_
     refine zh ?_
     refine hZ26 _ _ ?_
     refine ze fun Z29 hZ29 => ?_
     refine zj ?_
     have f30 := E40.idxS hx8
     have f31 := E40.fldS (f := 59) rfl rfl hx8 (o := 1) (by decide)
     have f32 := E59.idxS hx22
     have f33 := E59.loadS rfl rfl hx22
     refine rg tok [1, 4, 5, 6, 7] fun K hK => ?_
     simp only [go_sem, rL, rD, rE, rA, cellsGEntry, cellsGTree, zy, encGTree_eq, f30, f31, f32, f33]
     refine hK _ _ ?_
     have f34 := E40.idxS hx8
     have f35 := E40.fldS0 (f := 3) rfl rfl hx8
     refine rg tok [1, 4, 5, 6, 7, 8] fun K hK => ?_
     simp only [go_sem, rL, rD, rE, rA, cellsGEntry, zy, f34, f35]
     refine hK _ _ ?_
     refine awp_join (fun L τ => ∃ (m2_36 : GRaw), L = ([(1, .op 0 0 0), (4, .os true 4 1 v17 0 (List.length l16) false), (5, .int .i64 x4), (6, .int .i64 x18), (8, .op 2 0 0)] : List (Nat × AV)) ∧ τ = ([.cells 0 [.int .i64 a0.fKind, .int .i64 a0.fN, .str a0.fS, .ds true (List.flatMap encGEntry a0.fEntries) (List.length a0.fEntries) false, .ds true (List.flatMap encGRaw a0.fRest) (List.length a0.fRest) false], .cells v17 (List.flatMap encGRaw l16), .cells 0 [.int .i64 m2_36.fTag, .int .i64 m2_36.fWire, .int .i64 m2_36.fN, .str m2_36.fB]] : Store) ∧ ref11_raws.j37 x18 l16 (ref11_raws.l22 self_ref11_encode x4 (ref11_raws.l8 self_ref11_encode a0 q8) y8 q22) m2_36 = some r) ?_ ?_
     · skip
       refine rg tok [1, 4, 5, 6, 7, 8, 46] fun K hK => ?_
       simp only [go_sem, rL, rE, rA]
       refine hK _ _ ?_
       refine zj ?_
       refine rg tok [1, 4, 5, 6, 7, 8, 46, 58] fun K hK => ?_
       simp only [go_sem, rL, rE]
       refine hK _ _ ?_
       refine awp_if rfl (fun hc44 => ?_) (fun hc44 => ?_)
       · skip
         rw [if_pos hc44] at h
         have t45 := eq_true hc44
         refine rg tok [1, 4, 5, 6, 7, 8] fun K hK => ?_
         simp only [go_sem, rL, rD, rE, rA, t45]
         refine hK _ _ ?_
         refine rgE tok [1, 4, 5, 6, 8] fun K hK => ?_
         simp only [go_sem, rL, rD, rE, rA]
         refine hK _ _ ?_
         exact ⟨_, _, ⟨(⟨y8.fTag, 0, y22.fN, []⟩ : GRaw), rfl, rfl, h⟩, (.t [0, 1, 3] false)⟩
       · skip
         rw [if_neg hc44] at h
         have t46 := eq_false hc44
         refine rg tok [1, 4, 5, 6, 7, 8, 64] fun K hK => ?_
         simp only [go_sem, rL, rE, t46]
         refine hK _ _ ?_
         refine awp_if rfl (fun hc47 => ?_) (fun hc47 => ?_)
         · skip
           rw [if_pos hc47] at h
           have t48 := eq_true hc47
           refine rgE tok [1, 4, 5, 6, 8] fun K hK => ?_
           simp only [go_sem, rL, rD, rE, rA, t48]
           refine hK _ _ ?_
           exact ⟨_, _, ⟨(⟨y8.fTag, 1, 0, y22.fS⟩ : GRaw), rfl, rfl, h⟩, (.t [0, 1, 3] false)⟩
         · skip
           rw [if_neg hc47] at h
           have t49 := eq_false hc47
           refine rc [1, 4, 5, 6, 8, 9, 10] fun K hK => ?_
           obtain ⟨r50, hr50, h⟩ := bind_some h
           refine za tok 1 ?_
           simp only [go_sem, rL, rD, rE, rA, t49]
           refine zf rfl rfl rfl (ev_ref11_encode y22 r50 hr50 _) ?_
           rintro _ _ ⟨rfl, rfl⟩
           refine za tok 5 ?_
           simp only [go_sem, rL, rE, rA]
           refine zb ?_
           simp only [zd, upd, rE, reduceIte, zk, fs_nil]
           refine hK _ _ ?_
           refine ze fun Z51 hZ51 => ?_
           refine rg tok [1, 4, 5, 6, 8, 9, 10, 53] fun K hK => ?_
           simp only [go_sem, rL, rE]
           refine hK _ _ ?_
           refine awp_if rfl (fun hc52 => ?_) (fun hc52 => ?_)
           · skip
             rw [if_neg hc52] at h
             have t53 := eq_false hc52
             refine rg tok [2, 3] fun K hK => ?_
             simp only [go_sem, rL, rE, t53]
             refine hK _ _ ?_
             refine zi ?_
             obtain rfl := Option.some.inj h
             exact retA
           · skip
             rw [if_pos hc52] at h
             have t54 := eq_true hc52
             refine zh ?_
             refine hZ51 _ _ ?_
             have f55 := conv_b2s (T := tab) (src := 35) (dst := 9) rfl rfl rfl rfl rfl rfl r50.1
             refine rgE tok [1, 4, 5, 6, 8] fun K hK => ?_
             simp only [go_sem, rL, rD, rE, rA, t54, f55]
             refine hK _ _ ?_
             exact ⟨_, _, ⟨(⟨y8.fTag, 1, 0, r50.1⟩ : GRaw), rfl, rfl, h⟩, (.t [0, 1, 3] false)⟩
     rintro _ _ ⟨m2_36, rfl, rfl, h⟩
     unfold ref11_raws.j37 at h
     refine ze fun Z38 hZ38 => ?_
     refine rg tok [1, 4, 5, 6, 8, 72] fun K hK => ?_
     simp only [go_sem, rL, rE, rA]
     refine hK _ _ ?_
     refine awp_if rfl (fun hc39 => ?_) (fun hc39 => ?_)
     · skip
       rw [if_pos hc39] at h
       have t40 := eq_true hc39
       refine rg tok [2, 3] fun K hK => ?_
       simp only [go_sem, rL, rE, t40]
       refine hK _ _ ?_
       refine zi ?_
       obtain rfl := Option.some.inj h
       exact retA
     · skip
       rw [if_neg hc39] at h
       have t41 := eq_false hc39
       refine zh ?_
       refine hZ38 _ _ ?_
       obtain ⟨_u42, hu42, h⟩ := bind_some h
       have gu42 := room_some hu42
       have f43 := (zo E22.len l16)
       refine rgE tok [1, 4, 5, 6] fun K hK => ?_
       simp only [go_sem, rL, rD, rE, rA, rM, evBuildSlice, zeroRun, List.range_succ, List.range_zero, true_and, Nat.reduceMod, evAppend, evAppendTo, lenOfAV, t41, gu42, f43, srcCells_o, List.all_nil, List.all_cons, AV.one, Bool.and_self, List.nil_append, List.length_cons, List.length_nil, Nat.zero_add, List.cons_append]
       refine hK _ _ ?_
       refine hZ29 _ _ ?_
       refine rgE tok [1, 4, 5, 6] fun K hK => ?_
       simp only [go_sem, rL, rE, hw22]
       refine hK _ _ ?_
       exact ⟨_, _, _, Nat.lt_succ_self q22.length, ⟨p22 ++ [y22], q22, x18 + 1, l16 ++ [m2_36], v17 + 1, rfl, rfl, rfl, hE'22, hi'22, h⟩, (.t [0, 1] false)⟩
mutual
def ref11_encode : Nat → GTree → Option (List UInt8 × Int)
 | 0, _ => none
 | k + 1, a0 => ref11_encode.body (ref11_encode k) (ref11_raws k) a0
def ref11_raws : Nat → GTree → Option (List GRaw × Int)
 | 0, _ => none
 | k + 1, a0 => ref11_raws.body (ref11_encode k) (ref11_raws k) a0
end
theorem ref11_encode.all (k : Nat) : (∀ (a0 : GTree) (r : List UInt8 × Int), ref11_encode k a0 = some r → ACalls Tryd.prog 37 [.agg (cellsGTree a0)] [] (fun r' _ => r' = .tup [.ds true (List.flatMap encB r.1) (List.length r.1) false, .int .i64 r.2])) ∧ (∀ (a0 : GTree) (r : List GRaw × Int), ref11_raws k a0 = some r → ACalls Tryd.prog 63 [.agg (cellsGTree a0)] [] (fun r' _ => r' = .tup [.ds true (List.flatMap encGRaw r.1) (List.length r.1) false, .int .i64 r.2])) := by
 induction k with
 | zero => exact ⟨(fun a0 r h => by simp only [ref11_encode] at h; cases h), (fun a0 r h => by simp only [ref11_raws] at h; cases h)⟩
 | succ k ih => exact ⟨(fun a0 r h => ref11_encode.step _ _ ih.1 ih.2 a0 r (by simpa only [ref11_encode] using h)), (fun a0 r h => ref11_raws.step _ _ ih.1 ih.2 a0 r (by simpa only [ref11_raws] using h))⟩
theorem ref11_encode.ev (k : Nat) (a0 : GTree) (r : List UInt8 × Int) (h : ref11_encode k a0 = some r) (σ : Store) : ACalls Tryd.prog 37 [.agg (cellsGTree a0)] σ (fun r' σ' => r' = .tup [.ds true (List.flatMap encB r.1) (List.length r.1) false, .int .i64 r.2] ∧ σ' = σ) :=
 ((ref11_encode.all k).1 a0 r h).c σ
def ref11_Encode (a0 : GTree) : Option (List UInt8 × Int) :=
 (if a0.fKind = 3 then (ref09_Check a0).bind fun r2 => some (!r2) else some true).bind fun c2 => (if c2 = true then some (([] : List UInt8), 1) else (ref11_encode rounds a0).bind fun r7 => some (r7.1, r7.2))
theorem ref11_Encode.ok (a0 : GTree) (r : List UInt8 × Int) (h : ref11_Encode a0 = some r) : ACalls Tryd.prog 14 [.agg (cellsGTree a0)] [] (fun r' _ => r' = .tup [.ds true (List.flatMap encB r.1) (List.length r.1) false, .int .i64 r.2]) := by
 refine zl (rs := [.tmp 2, .tmp 3]) tok Tryd.func14 rfl Tryd.ntmps14 rfl Tryd.call14 (by simp) ?_
 refine zm [(0, .agg (cellsGTree a0))] ⟨rfl, trivial⟩ ?_
 unfold ref11_Encode at h
 refine rg tok [1] fun K hK => ?_
 simp only [go_sem, rL, rE, rA, reduceCtorEq, cellsGTree]
 refine hK _ _ ?_
 refine ze fun Z1 hZ1 => ?_
 refine rc [1, 11] fun K hK => ?_
 refine za tok 4 ?_
 simp only [go_sem, rL, rE, rA]
 obtain ⟨c2, hc2, h⟩ := bind_some h
 refine zn 4 (fun L τ => L = ([(1, .op 0 0 0), (11, .bool c2)] : List (Nat × AV)) ∧ τ = ([.cells 0 [.int .i64 a0.fKind, .int .i64 a0.fN, .str a0.fS, .ds true (List.flatMap encGEntry a0.fEntries) (List.length a0.fEntries) false, .ds true (List.flatMap encGRaw a0.fRest) (List.length a0.fRest) false]] : Store)) ?_ ?_
 · refine ops_if 7 rfl (fun hg7 => ?_) (fun hg7 => ?_)
   · skip
     have t3 := eq_false hg7
     rw [if_neg hg7] at hc2
     refine za tok 4 ?_
     simp only [go_sem, rL, rE]
     obtain rfl := Option.some.inj hc2
     refine zb ⟨rfl, _, _, ⟨rfl, rfl⟩, .p t3⟩
   · skip
     have t4 := eq_true hg7
     rw [if_pos hg7] at hc2
     obtain ⟨r5, hr5, hc2⟩ := bind_some hc2
     refine za tok 1 ?_
     simp only [go_sem, rL, rD, rE, rA]
     refine zf rfl rfl rfl (ref09_Check.ev a0 r5 hr5 _) ?_
     rintro _ _ ⟨rfl, rfl⟩
     refine za tok 2 ?_
     simp only [go_sem, rL, rE]
     obtain rfl := Option.some.inj hc2
     refine zb ⟨rfl, _, _, ⟨rfl, rfl⟩, .p t4⟩
 rintro _ _ ⟨rfl, rfl⟩
 refine zb ?_
 simp only [zd, rE, reduceIte, zk, fs_nil]
 refine hK _ _ ?_
 refine zw (b := c2) rfl (fun hc6 => ?_) (fun hc6 => ?_)
 · skip
   rw [if_pos hc6] at h
   refine rg tok [2, 3] fun K hK => ?_
   simp only [go_sem, rL, rE]
   refine hK _ _ ?_
   refine zi ?_
   obtain rfl := Option.some.inj h
   exact retA
 · skip
   rw [if_F hc6] at h
   refine zh ?_
   refine hZ1 _ _ ?_
   refine rc [2, 3] fun K hK => ?_
   obtain ⟨r7, hr7, h⟩ := bind_some h
   refine za tok 1 ?_
   simp only [go_sem, rL, rD, rE, rA]
   refine zf rfl rfl rfl (ref11_encode.ev rounds a0 r7 hr7 _) ?_
   rintro _ _ ⟨rfl, rfl⟩
   refine za tok 4 ?_
   simp only [go_sem, rL, rE, rA]
   refine zb ?_
   simp only [zd, upd, rE, reduceIte, zk, fs_nil]
   refine hK _ _ ?_
   refine zi ?_
   obtain rfl := Option.some.inj h
   exact retA
theorem ref11_Encode.ev (a0 : GTree) (r : List UInt8 × Int) (h : ref11_Encode a0 = some r) (σ : Store) : ACalls Tryd.prog 14 [.agg (cellsGTree a0)] σ (fun r' σ' => r' = .tup [.ds true (List.flatMap encB r.1) (List.length r.1) false, .int .i64 r.2] ∧ σ' = σ) :=
 (ref11_Encode.ok a0 r h).c σ
def law00_SameRaws.l8 (a1 : List GRaw) : List GRaw → Int → Option Bool
 | [], x6 => some true
 | y8 :: q8, x6 => (idxL a1 x6).bind fun y14 => (if (!(decide (y8.fTag = y14.fTag) && (decide (y8.fWire = y14.fWire) && (decide (y8.fN = y14.fN) && decide (y8.fB = y14.fB))))) = true then some false else ((law00_SameRaws.l8 a1 q8) (x6 + 1)))
def law00_SameRaws (a0 : List GRaw) (a1 : List GRaw) : Option Bool :=
 (if (List.length a0 : Int) = (List.length a1 : Int) then (law00_SameRaws.l8 a1 a0 0) else some false)
theorem law00_SameRaws.ok (a0 : List GRaw) (a1 : List GRaw) (r : Bool) (h : law00_SameRaws a0 a1 = some r) : ACalls Tryd.prog 16 [.ds true (List.flatMap encGRaw a0) (List.length a0) false, .ds true (List.flatMap encGRaw a1) (List.length a1) false] [] (fun r' _ => r' = .bool r) := by
 refine zl (rs := [.tmp 4]) tok Tryd.func16 rfl Tryd.ntmps16 rfl Tryd.call16 (by simp) ?_
 refine zm [(0, .ds true (List.flatMap encGRaw a0) (List.length a0) false), (1, .ds true (List.flatMap encGRaw a1) (List.length a1) false)] ⟨rfl, rfl, trivial⟩ ?_
 unfold law00_SameRaws at h
 refine rg tok [0, 1] fun K hK => ?_
 simp only [go_sem, rL, rE, reduceCtorEq]
 refine hK _ _ ?_
 refine ze fun Z1 hZ1 => ?_
 refine rg tok [0, 1, 10] fun K hK => ?_
 simp only [go_sem, rL, rE, reduceCtorEq]
 refine hK _ _ ?_
 refine awp_if rfl (fun hc2 => ?_) (fun hc2 => ?_)
 · skip
   rw [if_neg hc2] at h
   have t3 := eq_false hc2
   refine rg tok [4] fun K hK => ?_
   simp only [go_sem, rL, rE, reduceCtorEq, t3]
   refine hK _ _ ?_
   refine zi ?_
   obtain rfl := Option.some.inj h
   exact retA
 · skip
   rw [if_pos hc2] at h
   have t4 := eq_true hc2
   refine zh ?_
   refine hZ1 _ _ ?_
   refine ze fun Z5 hZ5 => ?_
   refine rg tok [0, 1, 5] fun K hK => ?_
   simp only [go_sem, rL, rE, reduceCtorEq, t4]
   refine hK _ _ ?_
   refine zj ?_
   refine awp_deep 0 fun hb8 => ?_
   replace hb8 : List.length a0 ≤ 9223372036854775807 := hb8.1
   refine zt (fun m L τ => ∃ (p8 q8 : List GRaw) (x6 : Int), m = List.length q8 ∧ L = ([(0, .ds true (List.flatMap encGRaw a0) (List.length a0) false), (1, .ds true (List.flatMap encGRaw a1) (List.length a1) false), (5, .int .i64 x6)] : List (Nat × AV)) ∧ τ = ([] : Store) ∧ a0 = p8 ++ q8 ∧ x6 = (List.length p8 : Int) ∧ law00_SameRaws.l8 a1 q8 x6 = some r) _ ⟨[], a0, 0, rfl, rfl, rfl, rfl, rfl, h⟩ .s ?_
   rintro m L τ ⟨p8, q8, x6, rfl, rfl, rfl, hE8, hi8, h⟩
   rcases q8 with _ | ⟨y8, q8⟩
   · have hz8 := zip_nil hE8 hi8
     simp only [law00_SameRaws.l8] at h
     refine ze fun Z9 hZ9 => ?_
     refine rg tok [0, 1, 5, 14] fun K hK => ?_
     simp only [go_sem, rL, rE, reduceCtorEq, hz8]
     refine hK _ _ ?_
     refine zp rfl ?_
     refine zx ?_
     refine hZ5 _ _ ?_
     refine rg tok [4] fun K hK => ?_
     simp only [go_sem, rL, rE, reduceCtorEq]
     refine hK _ _ ?_
     refine zi ?_
     obtain rfl := Option.some.inj h
     exact retA
   · obtain ⟨hz8, hw8, hx8, hE'8, hi'8⟩ := zip_cons hE8 hi8 hb8
     simp only [law00_SameRaws.l8] at h
     refine ze fun Z10 hZ10 => ?_
     refine rg tok [0, 1, 5, 14] fun K hK => ?_
     simp only [go_sem, rL, rE, reduceCtorEq, hz8]
     refine hK _ _ ?_
     refine zr rfl ?_
     refine zh ?_
     refine hZ10 _ _ ?_
     refine ze fun Z11 hZ11 => ?_
     refine zj ?_
     have f12 := E22.idxS hx8
     have f13 := E22.loadS rfl rfl hx8
     obtain ⟨y14, hy14, h⟩ := bind_some h
     have f15 := E22.idxS hy14
     have f16 := E22.loadS rfl rfl hy14
     refine rd [0, 1, 5, 25] fun K hK => ?_
     refine DW.start (T := tab) [.any, .any, .any, .at [], .any, .any, .any, .at [], .any] [] ?_
     refine DW.runN tok 8 ?_
     simp only [go_sem, rL, rE, reduceCtorEq, encGRaw, f12, f13, f15, f16]
     refine DW.runN tok 1 ?_
     simp only [go_sem, rL, rE, reduceCtorEq, evEqA, ceqL, ceq]
     refine DW.fin tok (by decide +kernel) rfl ?_
     simp only [zd, upd, rE, reduceIte, zk, fs_nil]
     refine hK _ _ ?_
     refine zw (b := (!(decide (y8.fTag = y14.fTag) && (decide (y8.fWire = y14.fWire) && (decide (y8.fN = y14.fN) && decide (y8.fB = y14.fB)))))) rfl (fun hc17 => ?_) (fun hc17 => ?_)
     · skip
       rw [if_pos hc17] at h
       refine rg tok [4] fun K hK => ?_
       simp only [go_sem, rL, rE, reduceCtorEq]
       refine hK _ _ ?_
       refine zi ?_
       obtain rfl := Option.some.inj h
       exact retA
     · skip
       rw [if_F hc17] at h
       refine zh ?_
       refine hZ11 _ _ ?_
       refine rgE tok [0, 1, 5] fun K hK => ?_
       simp only [go_sem, rL, rE, reduceCtorEq, hw8]
       refine hK _ _ ?_
       exact ⟨_, _, _, Nat.lt_succ_self q8.length, ⟨p8 ++ [y8], q8, x6 + 1, rfl, rfl, rfl, hE'8, hi'8, h⟩, .s⟩
theorem law00_SameRaws.ev (a0 : List GRaw) (a1 : List GRaw) (r : Bool) (h : law00_SameRaws a0 a1 = some r) (σ : Store) : ACalls Tryd.prog 16 [.ds true (List.flatMap encGRaw a0) (List.length a0) false, .ds true (List.flatMap encGRaw a1) (List.length a1) false] σ (fun r' σ' => r' = .bool r ∧ σ' = σ) :=
 (law00_SameRaws.ok a0 a1 r h).c σ
def law12_DecodeUnknown.j24 (x23 : Bool) : Option Bool :=
 some x23
def law12_DecodeUnknown.l4 (a0 : List GRaw) : List GRaw → Int → Option Bool
 | [], x2 => (if 40 < (List.length a0 : Int) then (law12_awake).bind fun r9 => some r9 else (law00_Raws a0).bind fun r11 => (wire_PutAll r11).bind fun r12 => (if r12.2 = 0 then (decode_Decode (⟨[97], [(⟨[109], ([] : List GField), ([] : List Int)⟩ : GMessage)], ([] : List GEnumeration), ([] : List GMethod)⟩ : GSchema) [109] r12.1).bind fun r18 => (ref11_Encode r18.1).bind fun r19 => (law00_Raws a0).bind fun r20 => (wire_Sorted r20).bind fun r21 => (wire_PutAll r21).bind fun r22 => (if r18.2 = 0 then (if r19.2 = 0 then (if (List.length r18.1.fEntries : Int) = 0 then (law00_Raws a0).bind fun r28 => (wire_Sorted r28).bind fun r29 => (law00_SameRaws r18.1.fRest r29).bind fun r30 => (if r30 = true then (if r19.1 = r22.1 then (decode_Canonical (⟨[97], [(⟨[109], ([] : List GField), ([] : List Int)⟩ : GMessage)], ([] : List GEnumeration), ([] : List GMethod)⟩ : GSchema) [109] r22.1).bind fun r34 => (if r34 = true then (law12_awake).bind fun r35 => (law12_DecodeUnknown.j24 r35) else (law12_DecodeUnknown.j24 false)) else (law12_DecodeUnknown.j24 false)) else (law12_DecodeUnknown.j24 false)) else (law12_DecodeUnknown.j24 false)) else (law12_DecodeUnknown.j24 false)) else (law12_DecodeUnknown.j24 false)) else (law12_awake).bind fun r16 => some r16))
 | y4 :: q4, x2 => (if 1000 < (List.length y4.fB : Int) then (law12_awake).bind fun r46 => some r46 else ((law12_DecodeUnknown.l4 a0 q4) (x2 + 1)))
def law12_DecodeUnknown (a0 : List GRaw) : Option Bool :=
 (law12_DecodeUnknown.l4 a0 a0 0)
theorem law12_DecodeUnknown.ok (a0 : List GRaw) (r : Bool) (h : law12_DecodeUnknown a0 = some r) : ACalls Tryd.prog 3 [.ds true (List.flatMap encGRaw a0) (List.length a0) false] [] (fun r' _ => r' = .bool r) := by
 refine zl (rs := [.tmp 2]) tok Tryd.func3 rfl Tryd.ntmps3 rfl Tryd.call3 (by simp) ?_
 refine zm [(0, .ds true (List.flatMap encGRaw a0) (List.length a0) false)] ⟨rfl, trivial⟩ ?_
 unfold law12_DecodeUnknown at h
 refine rg tok [0] fun K hK => ?_
 simp only [go_sem, rL, reduceCtorEq]
 refine hK _ _ ?_
 refine rg tok [0, 3] fun K hK => ?_
 simp only [go_sem, rL, rD, rE, rA, rM, reduceCtorEq, evBuildSlice, zeroRun, List.range_succ, List.range_zero, true_and, Nat.reduceMod]
 refine hK _ _ ?_
 refine ze fun Z1 hZ1 => ?_
 refine rg tok [0, 3, 4] fun K hK => ?_
 simp only [go_sem, rL, rE, reduceCtorEq]
 refine hK _ _ ?_
 refine zj ?_
 refine awp_deep 0 fun hb4 => ?_
 replace hb4 : List.length a0 ≤ 9223372036854775807 := hb4.1
 refine zt (fun m L τ => ∃ (p4 q4 : List GRaw) (x2 : Int), m = List.length q4 ∧ L = ([(0, .ds true (List.flatMap encGRaw a0) (List.length a0) false), (3, .op 1 0 0), (4, .int .i64 x2)] : List (Nat × AV)) ∧ τ = ([.cells 0 [.str [109], .ds true [] 0 true, .ds true [] 0 true], .cells 0 [.str [97], .os true 3 0 0 0 1 true, .ds true [] 0 true, .ds true [] 0 true]] : Store) ∧ a0 = p4 ++ q4 ∧ x2 = (List.length p4 : Int) ∧ law12_DecodeUnknown.l4 a0 q4 x2 = some r) _ ⟨[], a0, 0, rfl, rfl, rfl, rfl, rfl, h⟩ .s ?_
 rintro m L τ ⟨p4, q4, x2, rfl, rfl, rfl, hE4, hi4, h⟩
 rcases q4 with _ | ⟨y4, q4⟩
 · have hz4 := zip_nil hE4 hi4
   simp only [law12_DecodeUnknown.l4] at h
   refine ze fun Z5 hZ5 => ?_
   refine rg tok [0, 3, 4, 19] fun K hK => ?_
   simp only [go_sem, rL, rE, reduceCtorEq, hz4]
   refine hK _ _ ?_
   refine zp rfl ?_
   refine zx ?_
   refine hZ1 _ _ ?_
   refine ze fun Z6 hZ6 => ?_
   refine rg tok [0, 3, 32] fun K hK => ?_
   simp only [go_sem, rL, rE, reduceCtorEq]
   refine hK _ _ ?_
   refine awp_if rfl (fun hc7 => ?_) (fun hc7 => ?_)
   · skip
     rw [if_pos hc7] at h
     have t8 := eq_true hc7
     refine rc [2] fun K hK => ?_
     obtain ⟨r9, hr9, h⟩ := bind_some h
     refine zf rfl rfl rfl (law12_awake.ev  r9 hr9 _) ?_
     rintro _ _ ⟨rfl, rfl⟩
     refine za tok 1 ?_
     simp only [go_sem, rL, rE, reduceCtorEq, t8]
     refine zb ?_
     simp only [zd, upd, rE, reduceIte, zk, fs_nil]
     refine hK _ _ ?_
     refine zi ?_
     obtain rfl := Option.some.inj h
     exact retA
   · skip
     rw [if_neg hc7] at h
     have t10 := eq_false hc7
     refine zh ?_
     refine hZ6 _ _ ?_
     refine rc [0, 3, 5, 6] fun K hK => ?_
     obtain ⟨r11, hr11, h⟩ := bind_some h
     refine za tok 1 ?_
     simp only [go_sem, rL, reduceCtorEq, t10]
     refine zf rfl rfl rfl (law00_Raws.ev a0 r11 hr11 _) ?_
     rintro _ _ ⟨rfl, rfl⟩
     obtain ⟨r12, hr12, h⟩ := bind_some h
     refine zf rfl rfl rfl (wire_PutAll.ev r11 r12 hr12 _) ?_
     rintro _ _ ⟨rfl, rfl⟩
     refine za tok 5 ?_
     simp only [go_sem, rL, rE, rA, reduceCtorEq]
     refine zb ?_
     simp only [zd, upd, rE, reduceIte, zk, fs_nil]
     refine hK _ _ ?_
     refine ze fun Z13 hZ13 => ?_
     refine rg tok [0, 3, 5, 41] fun K hK => ?_
     simp only [go_sem, rL, rE, reduceCtorEq]
     refine hK _ _ ?_
     refine awp_if rfl (fun hc14 => ?_) (fun hc14 => ?_)
     · skip
       rw [if_neg hc14] at h
       have t15 := eq_false hc14
       refine rc [2] fun K hK => ?_
       obtain ⟨r16, hr16, h⟩ := bind_some h
       refine zf rfl rfl rfl (law12_awake.ev  r16 hr16 _) ?_
       rintro _ _ ⟨rfl, rfl⟩
       refine za tok 1 ?_
       simp only [go_sem, rL, rE, reduceCtorEq, t15]
       refine zb ?_
       simp only [zd, upd, rE, reduceIte, zk, fs_nil]
       refine hK _ _ ?_
       refine zi ?_
       obtain rfl := Option.some.inj h
       exact retA
     · skip
       rw [if_pos hc14] at h
       have t17 := eq_true hc14
       refine zh ?_
       refine hZ13 _ _ ?_
       refine rc [0, 3, 7, 8] fun K hK => ?_
       obtain ⟨r18, hr18, h⟩ := bind_some h
       refine za tok 2 ?_
       simp only [go_sem, rL, rD, rE, rA, reduceCtorEq, t17]
       refine ops_tellS (L := [(0, .ds true (List.flatMap encGRaw a0) (List.length a0) false), (3, .op 0 0 0), (44, .agg [.str [97], .ds true (List.flatMap encGMessage [(⟨[109], ([] : List GField), ([] : List Int)⟩ : GMessage)]) (List.length [(⟨[109], ([] : List GField), ([] : List Int)⟩ : GMessage)]) false, .ds true (List.flatMap encGEnumeration ([] : List GEnumeration)) (List.length ([] : List GEnumeration)) false, .ds true (List.flatMap encGMethod ([] : List GMethod)) (List.length ([] : List GMethod)) false]), (45, .ds true (List.flatMap encB r12.1) (List.length r12.1) false)]) (τ := [.cells 0 [.str [97], .ds true (List.flatMap encGMessage [(⟨[109], ([] : List GField), ([] : List Int)⟩ : GMessage)]) (List.length [(⟨[109], ([] : List GField), ([] : List Int)⟩ : GMessage)]) false, .ds true (List.flatMap encGEnumeration ([] : List GEnumeration)) (List.length ([] : List GEnumeration)) false, .ds true (List.flatMap encGMethod ([] : List GMethod)) (List.length ([] : List GMethod)) false]]) (.t [1] true) ?_
       refine zf rfl rfl rfl (ACalls.loose (decode_Decode.ev (⟨[97], [(⟨[109], ([] : List GField), ([] : List Int)⟩ : GMessage)], ([] : List GEnumeration), ([] : List GMethod)⟩ : GSchema) [109] r12.1 r18 hr18 _)) ?_
       rintro _ _ ⟨rfl, rfl⟩
       refine za tok 6 ?_
       simp only [go_sem, rL, rD, rE, rA, reduceCtorEq, cellsGTree]
       refine zb ?_
       simp only [zd, upd, rE, reduceIte, zk, fs_nil]
       refine hK _ _ ?_
       refine rc [0, 3, 7, 8, 9, 10] fun K hK => ?_
       obtain ⟨r19, hr19, h⟩ := bind_some h
       refine za tok 1 ?_
       simp only [go_sem, rL, rD, rE, rA, reduceCtorEq]
       refine zf rfl rfl rfl (ref11_Encode.ev r18.1 r19 hr19 _) ?_
       rintro _ _ ⟨rfl, rfl⟩
       refine za tok 5 ?_
       simp only [go_sem, rL, rE, rA, reduceCtorEq]
       refine zb ?_
       simp only [zd, upd, rE, reduceIte, zk, fs_nil]
       refine hK _ _ ?_
       refine rc [0, 3, 7, 8, 9, 10, 11] fun K hK => ?_
       obtain ⟨r20, hr20, h⟩ := bind_some h
       refine za tok 1 ?_
       simp only [go_sem, rL, reduceCtorEq]
       refine zf rfl rfl rfl (law00_Raws.ev a0 r20 hr20 _) ?_
       rintro _ _ ⟨rfl, rfl⟩
       obtain ⟨r21, hr21, h⟩ := bind_some h
       refine zf rfl rfl rfl (wire_Sorted.ev r20 r21 hr21 _) ?_
       rintro _ _ ⟨rfl, rfl⟩
       obtain ⟨r22, hr22, h⟩ := bind_some h
       refine zf rfl rfl rfl (wire_PutAll.ev r21 r22 hr22 _) ?_
       rintro _ _ ⟨rfl, rfl⟩
       refine za tok 5 ?_
       simp only [go_sem, rL, rE, rA, reduceCtorEq]
       refine zb ?_
       simp only [zd, upd, rE, reduceIte, zk, fs_nil]
       refine hK _ _ ?_
       refine awp_join (fun L τ => ∃ (x23 : Bool), L = ([(2, .bool x23)] : List (Nat × AV)) ∧ τ = ([] : Store) ∧ law12_DecodeUnknown.j24 x23 = some r) ?_ ?_
       · skip
         refine rdE [2] fun K hK => ?_
         refine DW.start (T := tab) [.any, .any, .any, .any, .any, .any, .any, .any, .at [], .at [], .any, .any, .any, .any, .own 2 [], .any, .eff, .eff, .eff, .any, .any, .any, .at [], .any, .at [], .any, .any, .any, .at [], .any, .eff, .any, .any, .eff, .any, .any] [(2, [])] ?_
         refine DW.runN tok 3 ?_
         simp only [go_sem, rL, rE, reduceCtorEq]
         refine DW.if 63 rfl (fun hg63 => ?_) (fun hg63 => ?_)
         · skip
           rw [if_pos hg63] at h
           have t25 := eq_true hg63
           refine DW.runN tok 4 ?_
           simp only [go_sem, rL, rE, reduceCtorEq, t25]
           refine DW.if 67 rfl (fun hg67 => ?_) (fun hg67 => ?_)
           · skip
             rw [if_pos hg67] at h
             have t26 := eq_true hg67
             refine DW.runN tok 6 ?_
             simp only [go_sem, rL, rE, rA, reduceCtorEq, t26]
             refine DW.if 73 rfl (fun hg73 => ?_) (fun hg73 => ?_)
             · skip
               rw [if_pos hg73] at h
               have t27 := eq_true hg73
               obtain ⟨r28, hr28, h⟩ := bind_some h
               refine DW.runN tok 3 ?_
               simp only [go_sem, rL, rE, rA, reduceCtorEq, t27]
               refine DW.call rfl rfl rfl (law00_Raws.ev a0 r28 hr28 _) ?_
               obtain ⟨r29, hr29, h⟩ := bind_some h
               refine DW.call rfl rfl rfl (wire_Sorted.ev r28 r29 hr29 _) ?_
               obtain ⟨r30, hr30, h⟩ := bind_some h
               refine DW.call rfl rfl rfl (law00_SameRaws.ev r18.1.fRest r29 r30 hr30 _) ?_
               refine DW.runN tok 2 ?_
               simp only [go_sem, rL, rE, reduceCtorEq]
               refine DW.at (b := r30) 81 rfl (fun hg81 => ?_) (fun hg81 => ?_)
               · skip
                 rw [if_pos hg81] at h
                 have f31 := conv_b2s (T := tab) (src := 35) (dst := 9) rfl rfl rfl rfl rfl rfl r19.1
                 have f32 := conv_b2s (T := tab) (src := 35) (dst := 9) rfl rfl rfl rfl rfl rfl r22.1
                 refine DW.runN tok 7 ?_
                 simp only [go_sem, rL, rE, reduceCtorEq, f31, f32]
                 refine DW.if 88 rfl (fun hg88 => ?_) (fun hg88 => ?_)
                 · skip
                   rw [if_pos hg88] at h
                   have t33 := eq_true hg88
                   obtain ⟨r34, hr34, h⟩ := bind_some h
                   refine DW.runN tok 2 ?_
                   simp only [go_sem, rL, rD, rE, rA, reduceCtorEq, t33]
                   refine DW.call rfl rfl rfl (decode_Canonical.ev (⟨[97], [(⟨[109], ([] : List GField), ([] : List Int)⟩ : GMessage)], ([] : List GEnumeration), ([] : List GMethod)⟩ : GSchema) [109] r22.1 r34 hr34 _) ?_
                   refine DW.runN tok 2 ?_
                   simp only [go_sem, rL, rE, reduceCtorEq]
                   refine DW.at (b := r34) 93 rfl (fun hg93 => ?_) (fun hg93 => ?_)
                   · skip
                     rw [if_pos hg93] at h
                     obtain ⟨r35, hr35, h⟩ := bind_some h
                     refine DW.call rfl rfl rfl (law12_awake.ev  r35 hr35 _) ?_
                     refine DW.runN tok 2 ?_
                     simp only [go_sem, rL, rE, reduceCtorEq]
                     refine DW.fin tok (by decide +kernel) rfl ?_
                     simp only [zd, upd, rE, reduceIte, zk, fs_nil]
                     refine hK _ _ ?_
                     exact ⟨_, _, ⟨r35, rfl, rfl, h⟩, (.t [] false)⟩
                   · skip
                     rw [if_F hg93] at h
                     refine DW.runN tok 3 ?_
                     simp only [go_sem, rL, rE, reduceCtorEq]
                     refine DW.fin tok (by decide +kernel) rfl ?_
                     simp only [zd, upd, rE, reduceIte, zk, fs_nil]
                     refine hK _ _ ?_
                     exact ⟨_, _, ⟨false, rfl, rfl, h⟩, (.t [] false)⟩
                 · skip
                   rw [if_neg hg88] at h
                   have t36 := eq_false hg88
                   refine DW.runN tok 8 ?_
                   simp only [go_sem, rL, rE, reduceCtorEq, t36]
                   refine DW.fin tok (by decide +kernel) rfl ?_
                   simp only [zd, upd, rE, reduceIte, zk, fs_nil]
                   refine hK _ _ ?_
                   exact ⟨_, _, ⟨false, rfl, rfl, h⟩, (.t [] false)⟩
               · skip
                 rw [if_F hg81] at h
                 refine DW.runN tok 8 ?_
                 simp only [go_sem, rL, rE, reduceCtorEq]
                 refine DW.runN tok 7 ?_
                 simp only [go_sem, rL, rE, reduceCtorEq]
                 refine DW.fin tok (by decide +kernel) rfl ?_
                 simp only [zd, upd, rE, reduceIte, zk, fs_nil]
                 refine hK _ _ ?_
                 exact ⟨_, _, ⟨false, rfl, rfl, h⟩, (.t [] false)⟩
             · skip
               rw [if_neg hg73] at h
               have t37 := eq_false hg73
               refine DW.runN tok 8 ?_
               simp only [go_sem, rL, rE, reduceCtorEq, t37]
               refine DW.runN tok 8 ?_
               simp only [go_sem, rL, rE, reduceCtorEq]
               refine DW.runN tok 7 ?_
               simp only [go_sem, rL, rE, reduceCtorEq]
               refine DW.fin tok (by decide +kernel) rfl ?_
               simp only [zd, upd, rE, reduceIte, zk, fs_nil]
               refine hK _ _ ?_
               exact ⟨_, _, ⟨false, rfl, rfl, h⟩, (.t [] false)⟩
           · skip
             rw [if_neg hg67] at h
             have t38 := eq_false hg67
             refine DW.runN tok 8 ?_
             simp only [go_sem, rL, rE, reduceCtorEq, t38]
             refine DW.runN tok 8 ?_
             simp only [go_sem, rL, rE, reduceCtorEq]
             refine DW.runN tok 8 ?_
             simp only [go_sem, rL, rE, reduceCtorEq]
             refine DW.runN tok 5 ?_
             simp only [go_sem, rL, rE, reduceCtorEq]
             refine DW.fin tok (by decide +kernel) rfl ?_
             simp only [zd, upd, rE, reduceIte, zk, fs_nil]
             refine hK _ _ ?_
             exact ⟨_, _, ⟨false, rfl, rfl, h⟩, (.t [] false)⟩
         · skip
           rw [if_neg hg63] at h
           have t39 := eq_false hg63
           refine DW.runN tok 8 ?_
           simp only [go_sem, rL, rE, reduceCtorEq, t39]
           refine DW.runN tok 8 ?_
           simp only [go_sem, rL, rE, reduceCtorEq]
           refine DW.runN tok 8 ?_
           simp only [go_sem, rL, rE, reduceCtorEq]
           refine DW.runN tok 8 ?_
           simp only [go_sem, rL, rE, reduceCtorEq]
           refine DW.runN tok 1 ?_
           simp only [go_sem, rL, rE, reduceCtorEq]
           refine DW.fin tok (by decide +kernel) rfl ?_
           simp only [zd, upd, rE, reduceIte, zk, fs_nil]
           refine hK _ _ ?_
           exact ⟨_, _, ⟨false, rfl, rfl, h⟩, (.t [] false)⟩
       rintro _ _ ⟨x23, rfl, rfl, h⟩
       unfold law12_DecodeUnknown.j24 at h
       refine zi ?_
       obtain rfl := Option.some.inj h
       exact retA
 · obtain ⟨hz4, hw4, hx4, hE'4, hi'4⟩ := zip_cons hE4 hi4 hb4
   simp only [law12_DecodeUnknown.l4] at h
   refine ze fun Z40 hZ40 => ?_
   refine rg tok [0, 3, 4, 19] fun K hK => ?_
   simp only [go_sem, rL, rE, reduceCtorEq, hz4]
   refine hK _ _ ?_
   refine zr rfl ?_
   refine zh ?_
   refine hZ40 _ _ ?_
   refine ze fun Z41 hZ41 => ?_
   refine zj ?_
   have f42 := E22.idxS hx4
   have f43 := E22.fldS (f := 9) rfl rfl hx4 (o := 3) (by decide)
   refine rg tok [0, 3, 4, 28] fun K hK => ?_
   simp only [go_sem, rL, rE, reduceCtorEq, encGRaw, f42, f43]
   refine hK _ _ ?_
   refine awp_if rfl (fun hc44 => ?_) (fun hc44 => ?_)
   · skip
     rw [if_pos hc44] at h
     have t45 := eq_true hc44
     refine rc [2] fun K hK => ?_
     obtain ⟨r46, hr46, h⟩ := bind_some h
     refine zf rfl rfl rfl (law12_awake.ev  r46 hr46 _) ?_
     rintro _ _ ⟨rfl, rfl⟩
     refine za tok 1 ?_
     simp only [go_sem, rL, rE, reduceCtorEq, t45]
     refine zb ?_
     simp only [zd, upd, rE, reduceIte, zk, fs_nil]
     refine hK _ _ ?_
     refine zi ?_
     obtain rfl := Option.some.inj h
     exact retA
   · skip
     rw [if_neg hc44] at h
     have t47 := eq_false hc44
     refine zh ?_
     refine hZ41 _ _ ?_
     refine rgE tok [0, 3, 4] fun K hK => ?_
     simp only [go_sem, rL, rE, reduceCtorEq, hw4, t47]
     refine hK _ _ ?_
     exact ⟨_, _, _, Nat.lt_succ_self q4.length, ⟨p4 ++ [y4], q4, x2 + 1, rfl, rfl, rfl, hE'4, hi'4, h⟩, .s⟩
end Go.Proofs.YtaddlmlpeghonaaDoor
