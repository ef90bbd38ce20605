import Derived.Test.YtaddlmlpeghonaaDoorUU
set_option maxRecDepth 4000
set_option maxHeartbeats 1000000
set_option linter.unusedSimpArgs false
set_option linter.unusedVariables false
set_option linter.constructorNameAsVariable false
namespace Go.Proofs.YtaddlmlpeghonaaDoor
open Nat renaming reduceLT → rL, reduceLeDiff → rD, reduceEqDiff → rE, reduceAdd → rA, reduceMul → rM, reduceSub → rS
open AM
def runes_Next (a0 : List UInt8) (a1 : Int) : Option (Int × Int × Bool) :=
 (if ((decide (a1 < 0)) || (decide ((List.length a0 : Int) ≤ a1))) = true then some (0, 0, false) else (grd ((0 : Int) ≤ a1 ∧ a1 ≤ (List.length a0 : Int) ∧ (List.length a0 : Int) ≤ (List.length a0 : Int))).bind fun _u5 => bnd (utf8_Decode (cutL a0 a1 (List.length a0 : Int))) fun r7 => (if ((decide (r7.1 = 65533)) && (decide (r7.2 < 2))) = true then some (0, 0, false) else some (r7.1, r7.2, true)))
theorem runes_Next.ok (a0 : List UInt8) (a1 : Int) (r : Int × Int × Bool) (h : runes_Next a0 a1 = some r) : ACalls Tryd.prog 112 [.str a0, .int .i64 a1] [] (fun r' _ => r' = .tup [.int .i32 r.1, .int .i64 r.2.1, .bool r.2.2]) := by
 refine zl (rs := [.tmp 4, .tmp 5, .tmp 6]) tok Tryd.func112 rfl Tryd.ntmps112 rfl Tryd.call112 (by simp) ?_
 refine zm [(0, .str a0), (1, .int .i64 a1)] ⟨rfl, rfl, trivial⟩ ?_
 unfold runes_Next at h
 refine rg tok [0, 1] fun K hK => ?_
 simp only [go_sem, rL, rE, reduceCtorEq]
 refine hK _ _ ?_
 refine ze fun Z1 hZ1 => ?_
 refine rc [0, 1, 16] fun K hK => ?_
 refine za tok 3 ?_
 simp only [go_sem, rL, rE, reduceCtorEq]
 refine zn 5 (fun L τ => L = ([(0, .str a0), (1, .int .i64 a1), (16, .bool ((decide (a1 < 0)) || (decide ((List.length a0 : Int) ≤ a1))))] : List (Nat × AV)) ∧ τ = ([] : Store)) ?_ ?_
 · refine ops_if 11 rfl (fun hg11 => ?_) (fun hg11 => ?_)
   · skip
     have t2 := eq_true hg11
     refine za tok 5 ?_
     simp only [go_sem, rL, rE, reduceCtorEq]
     refine zb ⟨rfl, _, _, ⟨rfl, rfl⟩, .p t2⟩
   · skip
     have t3 := eq_false hg11
     refine za tok 5 ?_
     simp only [go_sem, rL, rE, reduceCtorEq]
     refine zb ⟨rfl, _, _, ⟨rfl, rfl⟩, .p t3⟩
 rintro _ _ ⟨rfl, rfl⟩
 refine zb ?_
 simp only [zd, rE, reduceIte, zk, fs_nil]
 refine hK _ _ ?_
 refine zw (b := ((decide (a1 < 0)) || (decide ((List.length a0 : Int) ≤ a1)))) rfl (fun hc4 => ?_) (fun hc4 => ?_)
 · skip
   rw [if_pos hc4] at h
   refine rg tok [4, 5, 6] fun K hK => ?_
   simp only [go_sem, rL, rE, reduceCtorEq]
   refine hK _ _ ?_
   refine zi ?_
   obtain rfl := Option.some.inj h
   exact retA
 · skip
   rw [if_F hc4] at h
   refine zh ?_
   refine hZ1 _ _ ?_
   refine rc [7, 8] fun K hK => ?_
   obtain ⟨_u5, hu5, h⟩ := bind_some h
   have gu5 := grd_some hu5
   have f6 := str_lo (T := tab) (t := 9) rfl rfl gu5
   obtain ⟨r7, hr7, h⟩ := bnd_elim h
   refine za tok 3 ?_
   simp only [go_sem, rL, rE, reduceCtorEq, f6]
   refine zf rfl rfl rfl (utf8_Decode.ev (cutL a0 a1 (List.length a0 : Int)) r7 hr7 _) ?_
   rintro _ _ ⟨rfl, rfl⟩
   refine za tok 5 ?_
   simp only [go_sem, rL, rE, rA, reduceCtorEq]
   refine zb ?_
   simp only [zd, upd, rE, reduceIte, zk, fs_nil]
   refine hK _ _ ?_
   refine ze fun Z8 hZ8 => ?_
   refine rc [7, 8, 29] fun K hK => ?_
   refine za tok 3 ?_
   simp only [go_sem, rL, rE]
   refine zn 3 (fun L τ => L = ([(7, .int .i32 r7.1), (8, .int .i64 r7.2), (29, .bool ((decide (r7.1 = 65533)) && (decide (r7.2 < 2))))] : List (Nat × AV)) ∧ τ = ([] : Store)) ?_ ?_
   · refine ops_if 26 rfl (fun hg26 => ?_) (fun hg26 => ?_)
     · skip
       have t9 := eq_true hg26
       refine za tok 3 ?_
       simp only [go_sem, rL, rE]
       refine zb ⟨rfl, _, _, ⟨rfl, rfl⟩, .p t9⟩
     · skip
       have t10 := eq_false hg26
       refine za tok 3 ?_
       simp only [go_sem, rL, rE]
       refine zb ⟨rfl, _, _, ⟨rfl, rfl⟩, .p t10⟩
   rintro _ _ ⟨rfl, rfl⟩
   refine zb ?_
   simp only [zd, rE, reduceIte, zk, fs_nil]
   refine hK _ _ ?_
   refine zw (b := ((decide (r7.1 = 65533)) && (decide (r7.2 < 2)))) rfl (fun hc11 => ?_) (fun hc11 => ?_)
   · skip
     rw [if_pos hc11] at h
     refine rg tok [4, 5, 6] fun K hK => ?_
     simp only [go_sem, rL, rE]
     refine hK _ _ ?_
     refine zi ?_
     obtain rfl := Option.some.inj h
     exact retA
   · skip
     rw [if_F hc11] at h
     refine zh ?_
     refine hZ8 _ _ ?_
     refine rg tok [4, 5, 6] fun K hK => ?_
     simp only [go_sem, rL, rE]
     refine hK _ _ ?_
     refine zi ?_
     obtain rfl := Option.some.inj h
     exact retA
theorem runes_Next.ev (a0 : List UInt8) (a1 : Int) (r : Int × Int × Bool) (h : runes_Next a0 a1 = some r) (σ : Store) : ACalls Tryd.prog 112 [.str a0, .int .i64 a1] σ (fun r' σ' => r' = .tup [.int .i32 r.1, .int .i64 r.2.1, .bool r.2.2] ∧ σ' = σ) :=
 (runes_Next.ok a0 a1 r h).c σ
def runes_Valid.l4 (a0 : List UInt8) : Nat → Nat → Option Bool
 | 0, _ => none
 | k4 + 1, p2 => (if p2 < List.length a0 then (if ((decU a0 p2).1 : Int) = 65533 then (runes_Next a0 ((p2 : Nat) : Int)).bind fun r12 => (if (!r12.2.2) = true then some false else ((runes_Valid.l4 a0 k4) (p2 + (decU a0 p2).2))) else ((runes_Valid.l4 a0 k4) (p2 + (decU a0 p2).2))) else some true)
def runes_Valid (a0 : List UInt8) : Option Bool :=
 (runes_Valid.l4 a0 rounds 0)
theorem runes_Valid.ok (a0 : List UInt8) (r : Bool) (h : runes_Valid a0 = some r) : ACalls Tryd.prog 85 [.str a0] [] (fun r' _ => r' = .bool r) := by
 refine zl (rs := [.tmp 2]) tok Tryd.func85 rfl Tryd.ntmps85 rfl Tryd.call85 (by simp) ?_
 refine zm [(0, .str a0)] ⟨rfl, trivial⟩ ?_
 unfold runes_Valid at h
 refine rg tok [0] fun K hK => ?_
 simp only [go_sem, rL, reduceCtorEq]
 refine hK _ _ ?_
 refine ze fun Z1 hZ1 => ?_
 refine rg tok [0, 9] fun K hK => ?_
 simp only [go_sem, rL, rE, reduceCtorEq]
 refine hK _ _ ?_
 refine zj ?_
 refine zt (fun m L τ => ∃ (k4 : Nat) (p2 : Nat), m = 0 + k4 ∧ L = ([(0, .str a0), (9, .it 0)] : List (Nat × AV)) ∧ τ = ([.iter a0 p2] : Store) ∧ runes_Valid.l4 a0 k4 p2 = some r) _ ⟨rounds, 0, rfl, rfl, rfl, h⟩ .s ?_
 rintro m L τ ⟨k4, p2, rfl, rfl, rfl, h⟩
 rcases k4 with _ | k4
 · cases h
 · simp only [runes_Valid.l4] at h
   by_cases hn5 : p2 < List.length a0
   · skip
     rw [if_pos hn5] at h
     have t6 := eq_true hn5
     refine rg tok [0, 9, 10, 11] fun K hK => ?_
     simp only [go_sem, rL, rE, rA, reduceCtorEq, evNext, if_true, if_false, t6]
     refine hK _ _ ?_
     refine ze fun Z7 hZ7 => ?_
     refine zr rfl ?_
     refine zh ?_
     refine hZ7 _ _ ?_
     refine zj ?_
     refine rg tok [0, 3, 4, 9] fun K hK => ?_
     simp only [go_sem, rL, rE, rA, reduceCtorEq]
     refine hK _ _ ?_
     refine ze fun Z8 hZ8 => ?_
     refine rg tok [0, 3, 9, 15] fun K hK => ?_
     simp only [go_sem, rL, rE, reduceCtorEq]
     refine hK _ _ ?_
     refine awp_if rfl (fun hc9 => ?_) (fun hc9 => ?_)
     · skip
       rw [if_neg hc9] at h
       have t10 := eq_false hc9
       refine zx ?_
       exact ⟨_, _, _, Nat.lt_succ_self (0 + k4), ⟨k4, p2 + (decU a0 p2).2, rfl, rfl, rfl, h⟩, .s⟩
     · skip
       rw [if_pos hc9] at h
       have t11 := eq_true hc9
       refine zh ?_
       refine hZ8 _ _ ?_
       refine rc [0, 7, 9] fun K hK => ?_
       obtain ⟨r12, hr12, h⟩ := bind_some h
       refine za tok 2 ?_
       simp only [go_sem, rL, rE, reduceCtorEq, t11]
       refine zf rfl rfl rfl (runes_Next.ev a0 ((p2 : Nat) : Int) r12 hr12 _) ?_
       rintro _ _ ⟨rfl, rfl⟩
       refine za tok 7 ?_
       simp only [go_sem, rL, rE, rA, reduceCtorEq]
       refine zb ?_
       simp only [zd, upd, rE, reduceIte, zk, fs_nil]
       refine hK _ _ ?_
       refine rg tok [0, 9, 24] fun K hK => ?_
       simp only [go_sem, rL, rE, reduceCtorEq]
       refine hK _ _ ?_
       refine zw (b := (!r12.2.2)) rfl (fun hc13 => ?_) (fun hc13 => ?_)
       · skip
         rw [if_pos hc13] at h
         refine rg tok [2] fun K hK => ?_
         simp only [go_sem, rL, rE, reduceCtorEq]
         refine hK _ _ ?_
         refine zi ?_
         obtain rfl := Option.some.inj h
         exact retA
       · skip
         rw [if_F hc13] at h
         refine zh ?_
         exact ⟨_, _, _, Nat.lt_succ_self (0 + k4), ⟨k4, p2 + (decU a0 p2).2, rfl, rfl, rfl, h⟩, .s⟩
   · skip
     rw [if_neg hn5] at h
     have t14 := eq_false hn5
     refine rg tok [0, 9, 10, 11] fun K hK => ?_
     simp only [go_sem, rL, rE, reduceCtorEq, evNext, if_true, if_false, t14]
     refine hK _ _ ?_
     refine ze fun Z15 hZ15 => ?_
     refine zp rfl ?_
     refine zx ?_
     refine hZ1 _ _ ?_
     refine rg tok [2] fun K hK => ?_
     simp only [go_sem, rL, rE, reduceCtorEq]
     refine hK _ _ ?_
     refine zi ?_
     obtain rfl := Option.some.inj h
     exact retA
theorem runes_Valid.ev (a0 : List UInt8) (r : Bool) (h : runes_Valid a0 = some r) (σ : Store) : ACalls Tryd.prog 85 [.str a0] σ (fun r' σ' => r' = .bool r ∧ σ' = σ) :=
 (runes_Valid.ok a0 r h).c σ
def check_Message.l4 (a1 : List UInt8) : List GMessage → Int → GMessage × Bool
 | [], x2 => ((⟨[], ([] : List GField), ([] : List Int)⟩ : GMessage), false)
 | y4 :: q4, x2 => (if y4.fName = a1 then (y4, true) else ((check_Message.l4 a1 q4) (x2 + 1)))
def check_Message (a0 : GSchema) (a1 : List UInt8) : GMessage × Bool :=
 (check_Message.l4 a1 a0.fMessages 0)
theorem check_Message.ok (a0 : GSchema) (a1 : List UInt8) (r : GMessage × Bool) (h : check_Message a0 a1 = r) : ACalls Tryd.prog 34 [.agg (encGSchema a0), .str a1] [] (fun r' _ => r' = .tup [.agg (encGMessage r.1), .bool r.2]) := by
 refine zl (rs := [.cell 4 26, .tmp 5]) tok Tryd.func34 rfl Tryd.ntmps34 rfl Tryd.call34 (by simp) ?_
 refine zm [(0, .agg (encGSchema a0)), (1, .str a1)] ⟨rfl, rfl, trivial⟩ ?_
 unfold check_Message at h
 refine rg tok [1, 2, 4] fun K hK => ?_
 simp only [go_sem, rL, rE, rA, reduceCtorEq, encGSchema]
 refine hK _ _ ?_
 refine ze fun Z1 hZ1 => ?_
 refine rg tok [1, 4, 9, 10, 11] fun K hK => ?_
 simp only [go_sem, rL, rE, rA]
 refine hK _ _ ?_
 refine zj ?_
 refine awp_deep 9 fun hb4 => ?_
 replace hb4 : List.length a0.fMessages ≤ 9223372036854775807 := hb4.1
 refine zt (fun m L τ => ∃ (p4 q4 : List GMessage) (x2 : Int), m = List.length q4 ∧ L = ([(1, .str a1), (4, .op 0 0 0), (9, .ds true (List.flatMap encGMessage a0.fMessages) (List.length a0.fMessages) false), (10, .int .i64 (List.length a0.fMessages : Int)), (11, .int .i64 x2)] : List (Nat × AV)) ∧ τ = ([.cells 0 [.str [], .ds true [] 0 true, .ds true [] 0 true]] : Store) ∧ a0.fMessages = p4 ++ q4 ∧ x2 = (List.length p4 : Int) ∧ check_Message.l4 a1 q4 x2 = r) _ ⟨[], a0.fMessages, 0, rfl, rfl, rfl, rfl, rfl, h⟩ (.t [1] false) ?_
 rintro m L τ ⟨p4, q4, x2, rfl, rfl, rfl, hE4, hi4, h⟩
 rcases q4 with _ | ⟨y4, q4⟩
 · have hz4 := zip_nil hE4 hi4
   simp only [check_Message.l4] at h
   refine rg tok [1, 4, 9, 10, 11, 12] fun K hK => ?_
   simp only [go_sem, rL, rE, hz4]
   refine hK _ _ ?_
   refine ze fun Z5 hZ5 => ?_
   refine zp rfl ?_
   refine zx ?_
   refine hZ1 _ _ ?_
   refine rg tok [4, 5] fun K hK => ?_
   simp only [go_sem, rL, rD, rE, rA]
   refine hK _ _ ?_
   refine zi ?_
   obtain rfl := h
   exact retA
 · obtain ⟨hz4, hw4, hx4, hE'4, hi'4⟩ := zip_cons hE4 hi4 hb4
   simp only [check_Message.l4] at h
   refine rg tok [1, 4, 9, 10, 11, 12] fun K hK => ?_
   simp only [go_sem, rL, rE, hz4]
   refine hK _ _ ?_
   refine ze fun Z6 hZ6 => ?_
   refine zr rfl ?_
   refine zh ?_
   refine hZ6 _ _ ?_
   refine ze fun Z7 hZ7 => ?_
   refine zj ?_
   have f8 := E27.idxS hx4
   have f9 := E27.loadS rfl rfl hx4
   refine rg tok [1, 4, 7, 9, 10, 11] fun K hK => ?_
   simp only [go_sem, rL, rD, rE, rA, encGMessage, f8, f9]
   refine hK _ _ ?_
   refine rg tok [1, 4, 7, 9, 10, 11, 18] fun K hK => ?_
   simp only [go_sem, rL, rE, rA]
   refine hK _ _ ?_
   refine awp_if rfl (fun hc10 => ?_) (fun hc10 => ?_)
   · skip
     rw [if_pos hc10] at h
     have t11 := eq_true hc10
     refine rg tok [4, 5] fun K hK => ?_
     simp only [go_sem, rL, rD, rE, rA, t11]
     refine hK _ _ ?_
     refine zi ?_
     obtain rfl := h
     exact retA
   · skip
     rw [if_neg hc10] at h
     have t12 := eq_false hc10
     refine zh ?_
     refine hZ7 _ _ ?_
     refine rgE tok [1, 4, 9, 10, 11] fun K hK => ?_
     simp only [go_sem, rL, rE, hw4, t12]
     refine hK _ _ ?_
     exact ⟨_, _, _, Nat.lt_succ_self q4.length, ⟨p4 ++ [y4], q4, x2 + 1, rfl, rfl, rfl, hE'4, hi'4, h⟩, (.t [0] false)⟩
theorem check_Message.ev (a0 : GSchema) (a1 : List UInt8) (r : GMessage × Bool) (h : check_Message a0 a1 = r) (σ : Store) : ACalls Tryd.prog 34 [.agg (encGSchema a0), .str a1] σ (fun r' σ' => r' = .tup [.agg (encGMessage r.1), .bool r.2] ∧ σ' = σ) :=
 (check_Message.ok a0 a1 r h).c σ
def vint_Get.l12 (a1 : Int) : List UInt8 → Int → Int → Option (Int × Int × Int)
 | [], x9, x8 => some (0, 0, 2)
 | y12 :: q12, x9, x8 => (if ((decide (x9 = 9)) && (decide (1 < (y12.toNat : Int)))) = true then some (0, 0, 3) else (grd (0 ≤ IntKind.i64.wrap (7 * x9))).bind fun _u23 => (if 128 ≤ (y12.toNat : Int) then ((vint_Get.l12 a1 q12) (x9 + 1) (IntKind.u64.wrap ((BitVec.toNat (BitVec.ofInt 64 x8 ||| BitVec.ofInt 64 (IntKind.u64.wrap ((IntKind.u64.wrap (IntKind.u8.wrap ((BitVec.toNat (BitVec.ofInt 8 (y12.toNat : Int) &&& ~~~(BitVec.ofInt 8 128)) : Nat) : Int))) * 2 ^ (min (Int.toNat (IntKind.i64.wrap (7 * x9))) 64)))) : Nat) : Int))) else (if ((decide ((y12.toNat : Int) = 0)) && (decide (0 < x9))) = true then some (0, 0, 3) else some (IntKind.u64.wrap ((BitVec.toNat (BitVec.ofInt 64 x8 ||| BitVec.ofInt 64 (IntKind.u64.wrap ((IntKind.u64.wrap (IntKind.u8.wrap ((BitVec.toNat (BitVec.ofInt 8 (y12.toNat : Int) &&& ~~~(BitVec.ofInt 8 128)) : Nat) : Int))) * 2 ^ (min (Int.toNat (IntKind.i64.wrap (7 * x9))) 64)))) : Nat) : Int), IntKind.i64.wrap ((IntKind.i64.wrap (a1 + x9)) + 1), 0))))
def vint_Get (a0 : List UInt8) (a1 : Int) : Option (Int × Int × Int) :=
 (if ((decide (a1 < 0)) || (decide ((List.length a0 : Int) < a1))) = true then some (0, 0, 1) else (grd ((0 : Int) ≤ a1 ∧ a1 ≤ IntKind.i64.wrap (a1 + (if 10 < IntKind.i64.wrap ((List.length a0 : Int) - a1) then 10 else IntKind.i64.wrap ((List.length a0 : Int) - a1))) ∧ IntKind.i64.wrap (a1 + (if 10 < IntKind.i64.wrap ((List.length a0 : Int) - a1) then 10 else IntKind.i64.wrap ((List.length a0 : Int) - a1))) ≤ (List.length a0 : Int))).bind fun _u6 => (vint_Get.l12 a1 (cutL a0 a1 (IntKind.i64.wrap (a1 + (if 10 < IntKind.i64.wrap ((List.length a0 : Int) - a1) then 10 else IntKind.i64.wrap ((List.length a0 : Int) - a1))))) 0 0))
theorem vint_Get.ok (a0 : List UInt8) (a1 : Int) (r : Int × Int × Int) (h : vint_Get a0 a1 = some r) : ACalls Tryd.prog 110 [.ds true (List.flatMap encB a0) (List.length a0) false, .int .i64 a1] [] (fun r' _ => r' = .tup [.int .u64 r.1, .int .i64 r.2.1, .int .i64 r.2.2]) := by
 refine zl (rs := [.tmp 4, .tmp 5, .tmp 6]) tok Tryd.func110 rfl Tryd.ntmps110 rfl Tryd.call110 (by simp) ?_
 refine zm [(0, .ds true (List.flatMap encB a0) (List.length a0) false), (1, .int .i64 a1)] ⟨rfl, rfl, trivial⟩ ?_
 unfold vint_Get at h
 refine rg tok [0, 1] fun K hK => ?_
 simp only [go_sem, rL, rE, reduceCtorEq]
 refine hK _ _ ?_
 refine ze fun Z1 hZ1 => ?_
 refine rc [0, 1, 17] fun K hK => ?_
 refine za tok 3 ?_
 simp only [go_sem, rL, rE, reduceCtorEq]
 refine zn 5 (fun L τ => L = ([(0, .ds true (List.flatMap encB a0) (List.length a0) false), (1, .int .i64 a1), (17, .bool ((decide (a1 < 0)) || (decide ((List.length a0 : Int) < a1))))] : List (Nat × AV)) ∧ τ = ([] : Store)) ?_ ?_
 · refine ops_if 12 rfl (fun hg12 => ?_) (fun hg12 => ?_)
   · skip
     have t2 := eq_true hg12
     refine za tok 5 ?_
     simp only [go_sem, rL, rE, reduceCtorEq]
     refine zb ⟨rfl, _, _, ⟨rfl, rfl⟩, .p t2⟩
   · skip
     have t3 := eq_false hg12
     refine za tok 5 ?_
     simp only [go_sem, rL, rE, reduceCtorEq]
     refine zb ⟨rfl, _, _, ⟨rfl, rfl⟩, .p t3⟩
 rintro _ _ ⟨rfl, rfl⟩
 refine zb ?_
 simp only [zd, rE, reduceIte, zk, fs_nil]
 refine hK _ _ ?_
 refine zw (b := ((decide (a1 < 0)) || (decide ((List.length a0 : Int) < a1)))) rfl (fun hc4 => ?_) (fun hc4 => ?_)
 · skip
   rw [if_pos hc4] at h
   refine rg tok [4, 5, 6] fun K hK => ?_
   simp only [go_sem, rL, rE, reduceCtorEq]
   refine hK _ _ ?_
   refine zi ?_
   obtain rfl := Option.some.inj h
   exact retA
 · skip
   rw [if_F hc4] at h
   refine zh ?_
   refine hZ1 _ _ ?_
   refine rg tok [0, 1, 7] fun K hK => ?_
   simp only [go_sem, rL, rE, reduceCtorEq]
   refine hK _ _ ?_
   refine ze fun Z5 hZ5 => ?_
   obtain ⟨_u6, hu6, h⟩ := bind_some h
   have gu6 := grd_some hu6
   have f7 := E35.sl_lh gu6
   refine rg tok [1, 7, 27, 28, 29] fun K hK => ?_
   simp only [go_sem, rL, rE, reduceCtorEq, evFold, foldO, evMin2, f7]
   refine hK _ _ ?_
   refine zj ?_
   refine awp_deep 27 fun hb12 => ?_
   replace hb12 : List.length (cutL a0 a1 (IntKind.i64.wrap (a1 + (if 10 < IntKind.i64.wrap ((List.length a0 : Int) - a1) then 10 else IntKind.i64.wrap ((List.length a0 : Int) - a1))))) ≤ 9223372036854775807 := hb12.1
   refine zt (fun m L τ => ∃ (p12 q12 : List UInt8) (x9 : Int) (x8 : Int), m = List.length q12 ∧ L = ([(1, .int .i64 a1), (7, .int .u64 x8), (27, .ds true (List.flatMap encB (cutL a0 a1 (IntKind.i64.wrap (a1 + (if 10 < IntKind.i64.wrap ((List.length a0 : Int) - a1) then 10 else IntKind.i64.wrap ((List.length a0 : Int) - a1)))))) (List.length (cutL a0 a1 (IntKind.i64.wrap (a1 + (if 10 < IntKind.i64.wrap ((List.length a0 : Int) - a1) then 10 else IntKind.i64.wrap ((List.length a0 : Int) - a1)))))) false), (28, .int .i64 (List.length (cutL a0 a1 (IntKind.i64.wrap (a1 + (if 10 < IntKind.i64.wrap ((List.length a0 : Int) - a1) then 10 else IntKind.i64.wrap ((List.length a0 : Int) - a1))))) : Int)), (29, .int .i64 x9)] : List (Nat × AV)) ∧ τ = ([] : Store) ∧ cutL a0 a1 (IntKind.i64.wrap (a1 + (if 10 < IntKind.i64.wrap ((List.length a0 : Int) - a1) then 10 else IntKind.i64.wrap ((List.length a0 : Int) - a1)))) = p12 ++ q12 ∧ x9 = (List.length p12 : Int) ∧ vint_Get.l12 a1 q12 x9 x8 = some r) _ ⟨[], cutL a0 a1 (IntKind.i64.wrap (a1 + (if 10 < IntKind.i64.wrap ((List.length a0 : Int) - a1) then 10 else IntKind.i64.wrap ((List.length a0 : Int) - a1)))), 0, 0, rfl, rfl, rfl, rfl, rfl, h⟩ .s ?_
   rintro m L τ ⟨p12, q12, x9, x8, rfl, rfl, rfl, hE12, hi12, h⟩
   rcases q12 with _ | ⟨y12, q12⟩
   · have hz12 := zip_nil hE12 hi12
     simp only [vint_Get.l12] at h
     refine rg tok [1, 7, 27, 28, 29, 30] fun K hK => ?_
     simp only [go_sem, rL, rE, hz12]
     refine hK _ _ ?_
     refine ze fun Z13 hZ13 => ?_
     refine zp rfl ?_
     refine zx ?_
     refine hZ5 _ _ ?_
     refine rg tok [4, 5, 6] fun K hK => ?_
     simp only [go_sem, rL, rE]
     refine hK _ _ ?_
     refine zi ?_
     obtain rfl := Option.some.inj h
     exact retA
   · obtain ⟨hz12, hw12, hx12, hE'12, hi'12⟩ := zip_cons hE12 hi12 hb12
     simp only [vint_Get.l12] at h
     refine rg tok [1, 7, 27, 28, 29, 30] fun K hK => ?_
     simp only [go_sem, rL, rE, hz12]
     refine hK _ _ ?_
     refine ze fun Z14 hZ14 => ?_
     refine zr rfl ?_
     refine zh ?_
     refine hZ14 _ _ ?_
     refine ze fun Z15 hZ15 => ?_
     refine zj ?_
     have f16 := E35.idxS hx12
     have f17 := E35.fldS0 (f := 5) rfl rfl hx12
     refine rg tok [1, 7, 8, 9, 27, 28, 29] fun K hK => ?_
     simp only [go_sem, rL, rE, encB, f16, f17]
     refine hK _ _ ?_
     refine ze fun Z18 hZ18 => ?_
     refine rc [1, 7, 8, 9, 27, 28, 29, 39] fun K hK => ?_
     refine za tok 3 ?_
     simp only [go_sem, rL, rE]
     refine zn 3 (fun L τ => L = ([(1, .int .i64 a1), (7, .int .u64 x8), (8, .int .i64 x9), (9, .int .u8 (y12.toNat : Int)), (27, .ds true (List.flatMap encB (cutL a0 a1 (IntKind.i64.wrap (a1 + (if 10 < IntKind.i64.wrap ((List.length a0 : Int) - a1) then 10 else IntKind.i64.wrap ((List.length a0 : Int) - a1)))))) (List.length (cutL a0 a1 (IntKind.i64.wrap (a1 + (if 10 < IntKind.i64.wrap ((List.length a0 : Int) - a1) then 10 else IntKind.i64.wrap ((List.length a0 : Int) - a1)))))) false), (28, .int .i64 (List.length (cutL a0 a1 (IntKind.i64.wrap (a1 + (if 10 < IntKind.i64.wrap ((List.length a0 : Int) - a1) then 10 else IntKind.i64.wrap ((List.length a0 : Int) - a1))))) : Int)), (29, .int .i64 x9), (39, .bool ((decide (x9 = 9)) && (decide (1 < (y12.toNat : Int)))))] : List (Nat × AV)) ∧ τ = ([] : Store)) ?_ ?_
     · refine ops_if 36 rfl (fun hg36 => ?_) (fun hg36 => ?_)
       · skip
         have t19 := eq_true hg36
         refine za tok 3 ?_
         simp only [go_sem, rL, rE]
         refine zb ⟨rfl, _, _, ⟨rfl, rfl⟩, .p t19⟩
       · skip
         have t20 := eq_false hg36
         refine za tok 3 ?_
         simp only [go_sem, rL, rE]
         refine zb ⟨rfl, _, _, ⟨rfl, rfl⟩, .p t20⟩
     rintro _ _ ⟨rfl, rfl⟩
     refine zb ?_
     simp only [zd, rE, reduceIte, zk, fs_nil]
     refine hK _ _ ?_
     refine zw (b := ((decide (x9 = 9)) && (decide (1 < (y12.toNat : Int))))) rfl (fun hc21 => ?_) (fun hc21 => ?_)
     · skip
       rw [if_pos hc21] at h
       refine rg tok [4, 5, 6] fun K hK => ?_
       simp only [go_sem, rL, rE]
       refine hK _ _ ?_
       refine zi ?_
       obtain rfl := Option.some.inj h
       exact retA
     · skip
       rw [if_F hc21] at h
       refine zh ?_
       refine hZ18 _ _ ?_
       have f22 := conv_int (T := tab) (src := 5) (dst := 85) rfl rfl rfl
       obtain ⟨_u23, hu23, h⟩ := bind_some h
       have gu23 := grd_some hu23
       have gu23n : (IntKind.i64.wrap (7 * x9) < 0) = False := eq_false (by omega)
       refine rg tok [1, 7, 8, 9, 27, 28, 29] fun K hK => ?_
       simp only [go_sem, rL, rE, f22, gu23n, evShift]
       refine hK _ _ ?_
       refine ze fun Z24 hZ24 => ?_
       refine rg tok [1, 7, 8, 9, 27, 28, 29, 49] fun K hK => ?_
       simp only [go_sem, rL, rE]
       refine hK _ _ ?_
       refine awp_if rfl (fun hc25 => ?_) (fun hc25 => ?_)
       · skip
         rw [if_pos hc25] at h
         have t26 := eq_true hc25
         refine zx ?_
         refine hZ15 _ _ ?_
         refine rgE tok [1, 7, 27, 28, 29] fun K hK => ?_
         simp only [go_sem, rL, rE, hw12, t26]
         refine hK _ _ ?_
         exact ⟨_, _, _, Nat.lt_succ_self q12.length, ⟨p12 ++ [y12], q12, x9 + 1, IntKind.u64.wrap ((BitVec.toNat (BitVec.ofInt 64 x8 ||| BitVec.ofInt 64 (IntKind.u64.wrap ((IntKind.u64.wrap (IntKind.u8.wrap ((BitVec.toNat (BitVec.ofInt 8 (y12.toNat : Int) &&& ~~~(BitVec.ofInt 8 128)) : Nat) : Int))) * 2 ^ (min (Int.toNat (IntKind.i64.wrap (7 * x9))) 64)))) : Nat) : Int), rfl, rfl, rfl, hE'12, hi'12, h⟩, .s⟩
       · skip
         rw [if_neg hc25] at h
         have t27 := eq_false hc25
         refine zh ?_
         refine hZ24 _ _ ?_
         refine ze fun Z28 hZ28 => ?_
         refine rc [1, 7, 8, 55] fun K hK => ?_
         refine za tok 3 ?_
         simp only [go_sem, rL, rE, t27]
         refine zn 3 (fun L τ => L = ([(1, .int .i64 a1), (7, .int .u64 (IntKind.u64.wrap ((BitVec.toNat (BitVec.ofInt 64 x8 ||| BitVec.ofInt 64 (IntKind.u64.wrap ((IntKind.u64.wrap (IntKind.u8.wrap ((BitVec.toNat (BitVec.ofInt 8 (y12.toNat : Int) &&& ~~~(BitVec.ofInt 8 128)) : Nat) : Int))) * 2 ^ (min (Int.toNat (IntKind.i64.wrap (7 * x9))) 64)))) : Nat) : Int))), (8, .int .i64 x9), (55, .bool ((decide ((y12.toNat : Int) = 0)) && (decide (0 < x9))))] : List (Nat × AV)) ∧ τ = ([] : Store)) ?_ ?_
         · refine ops_if 52 rfl (fun hg52 => ?_) (fun hg52 => ?_)
           · skip
             have t29 := eq_true hg52
             refine za tok 3 ?_
             simp only [go_sem, rL, rE]
             refine zb ⟨rfl, _, _, ⟨rfl, rfl⟩, .p t29⟩
           · skip
             have t30 := eq_false hg52
             refine za tok 3 ?_
             simp only [go_sem, rL, rE]
             refine zb ⟨rfl, _, _, ⟨rfl, rfl⟩, .p t30⟩
         rintro _ _ ⟨rfl, rfl⟩
         refine zb ?_
         simp only [zd, rE, reduceIte, zk, fs_nil]
         refine hK _ _ ?_
         refine zw (b := ((decide ((y12.toNat : Int) = 0)) && (decide (0 < x9)))) rfl (fun hc31 => ?_) (fun hc31 => ?_)
         · skip
           rw [if_pos hc31] at h
           refine rg tok [4, 5, 6] fun K hK => ?_
           simp only [go_sem, rL, rE]
           refine hK _ _ ?_
           refine zi ?_
           obtain rfl := Option.some.inj h
           exact retA
         · skip
           rw [if_F hc31] at h
           refine zh ?_
           refine hZ28 _ _ ?_
           refine rg tok [4, 5, 6] fun K hK => ?_
           simp only [go_sem, rL, rE]
           refine hK _ _ ?_
           refine zi ?_
           obtain rfl := Option.some.inj h
           exact retA
theorem vint_Get.ev (a0 : List UInt8) (a1 : Int) (r : Int × Int × Int) (h : vint_Get a0 a1 = some r) (σ : Store) : ACalls Tryd.prog 110 [.ds true (List.flatMap encB a0) (List.length a0) false, .int .i64 a1] σ (fun r' σ' => r' = .tup [.int .u64 r.1, .int .i64 r.2.1, .int .i64 r.2.2] ∧ σ' = σ) :=
 (vint_Get.ok a0 a1 r h).c σ
def vint_Zag (a0 : Int) : Int :=
 IntKind.i64.wrap ((BitVec.toNat (BitVec.ofInt 64 (IntKind.i64.wrap (Int.fdiv a0 (2 ^ (min (Int.toNat 1) 64)))) ^^^ BitVec.ofInt 64 (IntKind.i64.wrap (0 - (IntKind.i64.wrap (IntKind.u64.wrap ((BitVec.toNat (BitVec.ofInt 64 a0 &&& BitVec.ofInt 64 1) : Nat) : Int)))))) : Nat) : Int)
theorem vint_Zag.ok (a0 : Int) (r : Int) (h : vint_Zag a0 = r) : ACalls Tryd.prog 111 [.int .u64 a0] [] (fun r' _ => r' = .int .i64 r) := by
 refine zl (rs := [.tmp 2]) tok Tryd.func111 rfl Tryd.ntmps111 rfl Tryd.call111 (by simp) ?_
 refine zm [(0, .int .u64 a0)] ⟨rfl, trivial⟩ ?_
 unfold vint_Zag at h
 refine rg tok [0] fun K hK => ?_
 simp only [go_sem, rL, reduceCtorEq]
 refine hK _ _ ?_
 have f1 := conv_int (T := tab) (src := 85) (dst := 3) rfl rfl rfl
 have f2 := conv_int (T := tab) (src := 85) (dst := 3) rfl rfl rfl
 refine rg tok [2] fun K hK => ?_
 simp only [go_sem, rL, rE, reduceCtorEq, f1, evShift, Int.reduceLT]
 refine hK _ _ ?_
 refine zi ?_
 obtain rfl := h
 exact retA
theorem vint_Zag.ev (a0 : Int) (r : Int) (h : vint_Zag a0 = r) (σ : Store) : ACalls Tryd.prog 111 [.int .u64 a0] σ (fun r' σ' => r' = .int .i64 r ∧ σ' = σ) :=
 (vint_Zag.ok a0 r h).c σ
def wire_one (a0 : List UInt8) (a1 : Int) : Option (GRaw × Int × Int) :=
 (vint_Get a0 a1).bind fun r1 => (if r1.2.2 = 0 then (if ((decide (r1.1 < 2)) || (decide (500 < IntKind.u64.wrap ((r1.1).tdiv 2)))) = true then some ((⟨0, 0, 0, []⟩ : GRaw), 0, 7) else (vint_Get a0 r1.2.1).bind fun r11 => (if r11.2.2 = 0 then (if IntKind.i64.wrap ((r1.1).tmod 2) = 0 then bnd (vint_Zag r11.1) fun r18 => some ((⟨IntKind.i64.wrap (IntKind.u64.wrap ((r1.1).tdiv 2)), IntKind.i64.wrap ((r1.1).tmod 2), r18, []⟩ : GRaw), r11.2.1, 0) else (if IntKind.u64.wrap (IntKind.i64.wrap ((List.length a0 : Int) - r11.2.1)) < r11.1 then some ((⟨0, 0, 0, []⟩ : GRaw), 0, 2) else (grd ((0 : Int) ≤ r11.2.1 ∧ r11.2.1 ≤ IntKind.i64.wrap (r11.2.1 + (IntKind.i64.wrap r11.1)) ∧ IntKind.i64.wrap (r11.2.1 + (IntKind.i64.wrap r11.1)) ≤ (List.length a0 : Int))).bind fun _u25 => some ((⟨IntKind.i64.wrap (IntKind.u64.wrap ((r1.1).tdiv 2)), IntKind.i64.wrap ((r1.1).tmod 2), 0, cutL a0 r11.2.1 (IntKind.i64.wrap (r11.2.1 + (IntKind.i64.wrap r11.1)))⟩ : GRaw), IntKind.i64.wrap (r11.2.1 + (IntKind.i64.wrap r11.1)), 0))) else some ((⟨0, 0, 0, []⟩ : GRaw), 0, r11.2.2))) else some ((⟨0, 0, 0, []⟩ : GRaw), 0, r1.2.2))
theorem wire_one.ok (a0 : List UInt8) (a1 : Int) (r : GRaw × Int × Int) (h : wire_one a0 a1 = some r) : ACalls Tryd.prog 83 [.ds true (List.flatMap encB a0) (List.length a0) false, .int .i64 a1] [] (fun r' _ => r' = .tup [.agg (encGRaw r.1), .int .i64 r.2.1, .int .i64 r.2.2]) := by
 refine zl (rs := [.cell 4 33, .tmp 5, .tmp 6]) tok Tryd.func83 rfl Tryd.ntmps83 rfl Tryd.call83 (by simp) ?_
 refine zm [(0, .ds true (List.flatMap encB a0) (List.length a0) false), (1, .int .i64 a1)] ⟨rfl, rfl, trivial⟩ ?_
 unfold wire_one at h
 refine rg tok [0, 1, 4] fun K hK => ?_
 simp only [go_sem, rL, rE, reduceCtorEq]
 refine hK _ _ ?_
 refine rc [0, 1, 4, 7, 8] fun K hK => ?_
 obtain ⟨r1, hr1, h⟩ := bind_some h
 refine za tok 2 ?_
 simp only [go_sem, rL, rE, reduceCtorEq]
 refine zf rfl rfl rfl (vint_Get.ev a0 a1 r1 hr1 _) ?_
 rintro _ _ ⟨rfl, rfl⟩
 refine za tok 7 ?_
 simp only [go_sem, rL, rE, rA, reduceCtorEq]
 refine zb ?_
 simp only [zd, upd, rE, reduceIte, zk, fs_nil]
 refine hK _ _ ?_
 refine ze fun Z2 hZ2 => ?_
 refine zj ?_
 refine rg tok [0, 1, 4, 7, 8, 19] fun K hK => ?_
 simp only [go_sem, rL, rE, reduceCtorEq]
 refine hK _ _ ?_
 refine awp_if rfl (fun hc3 => ?_) (fun hc3 => ?_)
 · skip
   rw [if_neg hc3] at h
   have t4 := eq_false hc3
   refine rg tok [4, 5, 6] fun K hK => ?_
   simp only [go_sem, rL, rD, rE, rA, reduceCtorEq, t4]
   refine hK _ _ ?_
   refine zi ?_
   obtain rfl := Option.some.inj h
   exact retA
 · skip
   rw [if_pos hc3] at h
   have t5 := eq_true hc3
   refine rc [0, 1, 4, 7, 24] fun K hK => ?_
   refine za tok 3 ?_
   simp only [go_sem, rL, rE, reduceCtorEq, t5]
   refine zn 4 (fun L τ => L = ([(0, .ds true (List.flatMap encB a0) (List.length a0) false), (1, .int .i64 r1.2.1), (4, .op 0 0 0), (7, .int .u64 r1.1), (31, .bool ((decide (r1.1 < 2)) || (decide (500 < IntKind.u64.wrap ((r1.1).tdiv 2)))))] : List (Nat × AV)) ∧ τ = ([.cells 0 [.int .i64 0, .int .i64 0, .int .i64 0, .str []]] : Store)) ?_ ?_
   · refine ops_if 27 rfl (fun hg27 => ?_) (fun hg27 => ?_)
     · skip
       have t6 := eq_true hg27
       refine za tok 4 ?_
       simp only [go_sem, rL, rE, reduceCtorEq]
       refine zb ⟨rfl, _, _, ⟨rfl, rfl⟩, .p t6⟩
     · skip
       have t7 := eq_false hg27
       refine za tok 4 ?_
       simp only [go_sem, rL, rE, reduceCtorEq, Int.reduceEq]
       refine zb ⟨rfl, _, _, ⟨rfl, rfl⟩, .p t7⟩
   rintro _ _ ⟨rfl, rfl⟩
   refine za tok 1 ?_
   simp only [go_sem, rL, rE, reduceCtorEq]
   refine zb ?_
   simp only [zd, upd, rE, reduceIte, zk, fs_nil]
   refine hK _ _ ?_
   refine zw (b := ((decide (r1.1 < 2)) || (decide (500 < IntKind.u64.wrap ((r1.1).tdiv 2))))) rfl (fun hc8 => ?_) (fun hc8 => ?_)
   · skip
     rw [if_pos hc8] at h
     refine rg tok [4, 5, 6] fun K hK => ?_
     simp only [go_sem, rL, rD, rE, rA, reduceCtorEq]
     refine hK _ _ ?_
     refine zi ?_
     obtain rfl := Option.some.inj h
     exact retA
   · skip
     rw [if_F hc8] at h
     refine zh ?_
     refine hZ2 _ _ ?_
     have f9 := conv_int (T := tab) (src := 85) (dst := 3) rfl rfl rfl
     have f10 := conv_int (T := tab) (src := 85) (dst := 3) rfl rfl rfl
     refine rg tok [0, 1, 4, 9] fun K hK => ?_
     simp only [go_sem, rL, rD, rE, rA, reduceCtorEq, f9, Int.reduceEq]
     refine hK _ _ ?_
     refine rc [0, 1, 4, 8, 9, 10] fun K hK => ?_
     obtain ⟨r11, hr11, h⟩ := bind_some h
     refine za tok 2 ?_
     simp only [go_sem, rL, rE, reduceCtorEq]
     refine zf rfl rfl rfl (vint_Get.ev a0 r1.2.1 r11 hr11 _) ?_
     rintro _ _ ⟨rfl, rfl⟩
     refine za tok 7 ?_
     simp only [go_sem, rL, rE, rA, reduceCtorEq]
     refine zb ?_
     simp only [zd, upd, rE, reduceIte, zk, fs_nil]
     refine hK _ _ ?_
     refine ze fun Z12 hZ12 => ?_
     refine zj ?_
     refine rg tok [0, 1, 4, 8, 9, 10, 47] fun K hK => ?_
     simp only [go_sem, rL, rE, reduceCtorEq]
     refine hK _ _ ?_
     refine awp_if rfl (fun hc13 => ?_) (fun hc13 => ?_)
     · skip
       rw [if_neg hc13] at h
       have t14 := eq_false hc13
       refine rg tok [4, 5, 6] fun K hK => ?_
       simp only [go_sem, rL, rD, rE, rA, reduceCtorEq, t14]
       refine hK _ _ ?_
       refine zi ?_
       obtain rfl := Option.some.inj h
       exact retA
     · skip
       rw [if_pos hc13] at h
       have t15 := eq_true hc13
       refine rg tok [0, 1, 4, 9, 10, 52] fun K hK => ?_
       simp only [go_sem, rL, rE, rA, reduceCtorEq, t15]
       refine hK _ _ ?_
       refine awp_if rfl (fun hc16 => ?_) (fun hc16 => ?_)
       · skip
         rw [if_pos hc16] at h
         have t17 := eq_true hc16
         refine rc [1, 4, 9] fun K hK => ?_
         obtain ⟨r18, hr18, h⟩ := bnd_elim h
         refine za tok 1 ?_
         simp only [go_sem, rL, rE, reduceCtorEq, t17]
         refine zf rfl rfl rfl (vint_Zag.ev r11.1 r18 hr18 _) ?_
         rintro _ _ ⟨rfl, rfl⟩
         refine za tok 2 ?_
         simp only [go_sem, rL, rD, rE, rA, reduceCtorEq, encGRaw]
         refine zb ?_
         simp only [zd, upd, rE, reduceIte, zk, fs_nil]
         refine hK _ _ ?_
         refine rg tok [4, 5, 6] fun K hK => ?_
         simp only [go_sem, rL, rD, rE, rA]
         refine hK _ _ ?_
         refine zi ?_
         obtain rfl := Option.some.inj h
         exact retA
       · skip
         rw [if_neg hc16] at h
         have t19 := eq_false hc16
         have f20 := conv_int (T := tab) (src := 3) (dst := 85) rfl rfl rfl
         refine rg tok [0, 1, 4, 9, 10, 61] fun K hK => ?_
         simp only [go_sem, rL, rE, reduceCtorEq, t19, f20]
         refine hK _ _ ?_
         refine awp_if rfl (fun hc21 => ?_) (fun hc21 => ?_)
         · skip
           rw [if_pos hc21] at h
           have t22 := eq_true hc21
           refine rg tok [4, 5, 6] fun K hK => ?_
           simp only [go_sem, rL, rD, rE, rA, reduceCtorEq, t22]
           refine hK _ _ ?_
           refine zi ?_
           obtain rfl := Option.some.inj h
           exact retA
         · skip
           rw [if_neg hc21] at h
           have t23 := eq_false hc21
           refine zh ?_
           refine hZ12 _ _ ?_
           have f24 := conv_int (T := tab) (src := 85) (dst := 3) rfl rfl rfl
           refine rg tok [0, 1, 4, 9, 11] fun K hK => ?_
           simp only [go_sem, rL, rE, reduceCtorEq, t23, f24]
           refine hK _ _ ?_
           obtain ⟨_u25, hu25, h⟩ := bind_some h
           have gu25 := grd_some hu25
           have f26 := E35.sl_lh gu25
           have f27 := conv_b2s (T := tab) (src := 35) (dst := 9) rfl rfl rfl rfl rfl rfl (cutL a0 r11.2.1 (IntKind.i64.wrap (r11.2.1 + (IntKind.i64.wrap r11.1))))
           refine rg tok [4, 9, 11] fun K hK => ?_
           simp only [go_sem, rL, rD, rE, rA, reduceCtorEq, f26, f27]
           refine hK _ _ ?_
           refine rg tok [4, 5, 6] fun K hK => ?_
           simp only [go_sem, rL, rD, rE, rA]
           refine hK _ _ ?_
           refine zi ?_
           obtain rfl := Option.some.inj h
           exact retA
theorem wire_one.ev (a0 : List UInt8) (a1 : Int) (r : GRaw × Int × Int) (h : wire_one a0 a1 = some r) (σ : Store) : ACalls Tryd.prog 83 [.ds true (List.flatMap encB a0) (List.length a0) false, .int .i64 a1] σ (fun r' σ' => r' = .tup [.agg (encGRaw r.1), .int .i64 r.2.1, .int .i64 r.2.2] ∧ σ' = σ) :=
 (wire_one.ok a0 a1 r h).c σ
def wire_Get.l12 (a0 : List UInt8) : Nat → List GRaw → Int → Option (List GRaw × Int)
 | 0, _, _ => none
 | k12 + 1, l6, x8 => (if x8 < (List.length a0 : Int) then (wire_one a0 x8).bind fun r16 => (if r16.2.2 = 0 then (room (List.length l6 + 1) 40).bind fun _u21 => ((wire_Get.l12 a0 k12) (l6 ++ [r16.1]) r16.2.1) else some (([] : List GRaw), r16.2.2)) else some (l6, 0))
def wire_Get (a0 : List UInt8) : Option (List GRaw × Int) :=
 (if 4096 < (List.length a0 : Int) then some (([] : List GRaw), 4) else (wire_Get.l12 a0 rounds ([] : List GRaw) 0))
theorem wire_Get.ok (a0 : List UInt8) (r : List GRaw × Int) (h : wire_Get a0 = some r) : ACalls Tryd.prog 55 [.ds true (List.flatMap encB a0) (List.length a0) false] [] (fun r' _ => r' = .tup [.ds true (List.flatMap encGRaw r.1) (List.length r.1) false, .int .i64 r.2]) := by
 refine zl (rs := [.tmp 2, .tmp 3]) tok Tryd.func55 rfl Tryd.ntmps55 rfl Tryd.call55 (by simp) ?_
 refine zm [(0, .ds true (List.flatMap encB a0) (List.length a0) false)] ⟨rfl, trivial⟩ ?_
 unfold wire_Get at h
 refine rg tok [0] fun K hK => ?_
 simp only [go_sem, rL, reduceCtorEq]
 refine hK _ _ ?_
 refine ze fun Z1 hZ1 => ?_
 refine rg tok [0, 11] fun K hK => ?_
 simp only [go_sem, rL, rE, reduceCtorEq]
 refine hK _ _ ?_
 refine awp_if rfl (fun hc2 => ?_) (fun hc2 => ?_)
 · skip
   rw [if_pos hc2] at h
   have t3 := eq_true hc2
   refine rg tok [2, 3] fun K hK => ?_
   simp only [go_sem, rL, rE, reduceCtorEq, t3]
   refine hK _ _ ?_
   refine zi ?_
   obtain rfl := Option.some.inj h
   exact retA
 · skip
   rw [if_neg hc2] at h
   have t4 := eq_false hc2
   refine zh ?_
   refine hZ1 _ _ ?_
   refine rg tok [0, 4] fun K hK => ?_
   simp only [go_sem, rL, rE, reduceCtorEq, t4]
   refine hK _ _ ?_
   refine awp_virtS 4 4 rfl ?_
   refine awp_tellS (L := [(0, .ds true (List.flatMap encB a0) (List.length a0) false), (4, .os true 4 0 0 0 (List.length ([] : List GRaw)) false)]) (τ := [.cells 0 (List.flatMap encGRaw ([] : List GRaw))]) .s ?_
   refine ze fun Z5 hZ5 => ?_
   refine rg tok [0, 4, 5] fun K hK => ?_
   simp only [go_sem, rL, rE, reduceCtorEq]
   refine hK _ _ ?_
   refine zj ?_
   refine zt (fun m L τ => ∃ (k12 : Nat) (l6 : List GRaw) (x8 : Int) (v7 : Nat), m = 0 + k12 ∧ L = ([(0, .ds true (List.flatMap encB a0) (List.length a0) false), (4, .os true 4 0 v7 0 (List.length l6) false), (5, .int .i64 x8)] : List (Nat × AV)) ∧ τ = ([.cells v7 (List.flatMap encGRaw l6)] : Store) ∧ wire_Get.l12 a0 k12 l6 x8 = some r) _ ⟨rounds, ([] : List GRaw), 0, 0, rfl, rfl, rfl, h⟩ .s ?_
   rintro m L τ ⟨k12, l6, x8, v7, rfl, rfl, rfl, h⟩
   rcases k12 with _ | k12
   · cases h
   · simp only [wire_Get.l12] at h
     refine ze fun Z13 hZ13 => ?_
     refine rg tok [0, 4, 5, 15] fun K hK => ?_
     simp only [go_sem, rL, rE, reduceCtorEq]
     refine hK _ _ ?_
     refine awp_if rfl (fun hc14 => ?_) (fun hc14 => ?_)
     · skip
       rw [if_pos hc14] at h
       have t15 := eq_true hc14
       refine zh ?_
       refine hZ13 _ _ ?_
       refine zj ?_
       refine rc [0, 4, 6, 7, 8] fun K hK => ?_
       obtain ⟨r16, hr16, h⟩ := bind_some h
       refine za tok 2 ?_
       simp only [go_sem, rL, rE, reduceCtorEq, t15]
       refine zf rfl rfl rfl (wire_one.ev a0 x8 r16 hr16 _) ?_
       rintro _ _ ⟨rfl, rfl⟩
       refine za tok 8 ?_
       simp only [go_sem, rL, rD, rE, rA, reduceCtorEq, encGRaw]
       refine zb ?_
       simp only [zd, upd, rE, reduceIte, zk, fs_nil]
       refine hK _ _ ?_
       refine ze fun Z17 hZ17 => ?_
       refine rg tok [0, 4, 6, 7, 8, 24] fun K hK => ?_
       simp only [go_sem, rL, rE, reduceCtorEq]
       refine hK _ _ ?_
       refine awp_if rfl (fun hc18 => ?_) (fun hc18 => ?_)
       · skip
         rw [if_neg hc18] at h
         have t19 := eq_false hc18
         refine rg tok [2, 3] fun K hK => ?_
         simp only [go_sem, rL, rE, reduceCtorEq, t19]
         refine hK _ _ ?_
         refine zi ?_
         obtain rfl := Option.some.inj h
         exact retA
       · skip
         rw [if_pos hc18] at h
         have t20 := eq_true hc18
         refine zh ?_
         refine hZ17 _ _ ?_
         obtain ⟨_u21, hu21, h⟩ := bind_some h
         have gu21 := room_some hu21
         have f22 := (zo E22.len l6)
         refine rg tok [0, 4, 7] fun K hK => ?_
         simp only [go_sem, rL, rD, rE, rA, rM, reduceCtorEq, evBuildSlice, zeroRun, List.range_succ, List.range_zero, true_and, Nat.reduceMod, evAppend, evAppendTo, lenOfAV, t20, gu21, f22, srcCells_o, List.all_nil, List.all_cons, AV.one, Bool.and_self, List.nil_append, List.length_cons, List.length_nil, Nat.zero_add, List.cons_append]
         refine hK _ _ ?_
         refine awp_tellS (L := [(0, .ds true (List.flatMap encB a0) (List.length a0) false), (4, .os true 4 0 (v7 + 1) 0 (List.length (l6 ++ [r16.1])) false), (7, .int .i64 r16.2.1)]) (τ := [.cells (v7 + 1) (List.flatMap encGRaw (l6 ++ [r16.1])), .cells 0 [.int .i64 r16.1.fTag, .int .i64 r16.1.fWire, .int .i64 r16.1.fN, .str r16.1.fB], .cells 0 [.int .i64 r16.1.fTag, .int .i64 r16.1.fWire, .int .i64 r16.1.fN, .str r16.1.fB]]) .s ?_
         refine rgE tok [0, 4, 5] fun K hK => ?_
         simp only [go_sem, rL, rE, reduceCtorEq]
         refine hK _ _ ?_
         exact ⟨_, _, _, Nat.lt_succ_self (0 + k12), ⟨k12, l6 ++ [r16.1], r16.2.1, v7 + 1, rfl, rfl, rfl, h⟩, (.t [0] false)⟩
     · skip
       rw [if_neg hc14] at h
       have t23 := eq_false hc14
       refine zx ?_
       refine hZ5 _ _ ?_
       refine rg tok [2, 3] fun K hK => ?_
       simp only [go_sem, rL, rE, reduceCtorEq, t23]
       refine hK _ _ ?_
       refine zi ?_
       obtain rfl := Option.some.inj h
       exact retA
theorem wire_Get.ev (a0 : List UInt8) (r : List GRaw × Int) (h : wire_Get a0 = some r) (σ : Store) : ACalls Tryd.prog 55 [.ds true (List.flatMap encB a0) (List.length a0) false] σ (fun r' σ' => r' = .tup [.ds true (List.flatMap encGRaw r.1) (List.length r.1) false, .int .i64 r.2] ∧ σ' = σ) :=
 (wire_Get.ok a0 r h).c σ
def check_Field.l4 (a1 : Int) : List GField → Int → GField × Bool
 | [], x2 => ((⟨[], 0, 0, (⟨0, []⟩ : GType)⟩ : GField), false)
 | y4 :: q4, x2 => (if y4.fTag = a1 then (y4, true) else ((check_Field.l4 a1 q4) (x2 + 1)))
def check_Field (a0 : GMessage) (a1 : Int) : GField × Bool :=
 (check_Field.l4 a1 a0.fFields 0)
theorem check_Field.ok (a0 : GMessage) (a1 : Int) (r : GField × Bool) (h : check_Field a0 a1 = r) : ACalls Tryd.prog 56 [.agg (encGMessage a0), .int .i64 a1] [] (fun r' _ => r' = .tup [.agg (encGField r.1), .bool r.2]) := by
 refine zl (rs := [.cell 4 52, .tmp 5]) tok Tryd.func56 rfl Tryd.ntmps56 rfl Tryd.call56 (by simp) ?_
 refine zm [(0, .agg (encGMessage a0)), (1, .int .i64 a1)] ⟨rfl, rfl, trivial⟩ ?_
 unfold check_Field at h
 refine rg tok [1, 2, 4] fun K hK => ?_
 simp only [go_sem, rL, rE, rA, reduceCtorEq, encGMessage]
 refine hK _ _ ?_
 refine ze fun Z1 hZ1 => ?_
 refine rg tok [1, 4, 9, 10, 11] fun K hK => ?_
 simp only [go_sem, rL, rE, rA]
 refine hK _ _ ?_
 refine zj ?_
 refine awp_deep 9 fun hb4 => ?_
 replace hb4 : List.length a0.fFields ≤ 9223372036854775807 := hb4.1
 refine zt (fun m L τ => ∃ (p4 q4 : List GField) (x2 : Int), m = List.length q4 ∧ L = ([(1, .int .i64 a1), (4, .op 0 0 0), (9, .ds true (List.flatMap encGField a0.fFields) (List.length a0.fFields) false), (10, .int .i64 (List.length a0.fFields : Int)), (11, .int .i64 x2)] : List (Nat × AV)) ∧ τ = ([.cells 0 [.str [], .int .i64 0, .int .i64 0, .int .i64 0, .str []]] : Store) ∧ a0.fFields = p4 ++ q4 ∧ x2 = (List.length p4 : Int) ∧ check_Field.l4 a1 q4 x2 = r) _ ⟨[], a0.fFields, 0, rfl, rfl, rfl, rfl, rfl, h⟩ (.t [1] false) ?_
 rintro m L τ ⟨p4, q4, x2, rfl, rfl, rfl, hE4, hi4, h⟩
 rcases q4 with _ | ⟨y4, q4⟩
 · have hz4 := zip_nil hE4 hi4
   simp only [check_Field.l4] at h
   refine rg tok [1, 4, 9, 10, 11, 12] fun K hK => ?_
   simp only [go_sem, rL, rE, hz4]
   refine hK _ _ ?_
   refine ze fun Z5 hZ5 => ?_
   refine zp rfl ?_
   refine zx ?_
   refine hZ1 _ _ ?_
   refine rg tok [4, 5] fun K hK => ?_
   simp only [go_sem, rL, rD, rE, rA]
   refine hK _ _ ?_
   refine zi ?_
   obtain rfl := h
   exact retA
 · obtain ⟨hz4, hw4, hx4, hE'4, hi'4⟩ := zip_cons hE4 hi4 hb4
   simp only [check_Field.l4] at h
   refine rg tok [1, 4, 9, 10, 11, 12] fun K hK => ?_
   simp only [go_sem, rL, rE, hz4]
   refine hK _ _ ?_
   refine ze fun Z6 hZ6 => ?_
   refine zr rfl ?_
   refine zh ?_
   refine hZ6 _ _ ?_
   refine ze fun Z7 hZ7 => ?_
   refine zj ?_
   have f8 := E23.idxS hx4
   have f9 := E23.loadS rfl rfl hx4
   refine rg tok [1, 4, 7, 9, 10, 11] fun K hK => ?_
   simp only [go_sem, rL, rD, rE, rA, encGField, f8, f9]
   refine hK _ _ ?_
   refine rg tok [1, 4, 7, 9, 10, 11, 18] fun K hK => ?_
   simp only [go_sem, rL, rE, rA]
   refine hK _ _ ?_
   refine awp_if rfl (fun hc10 => ?_) (fun hc10 => ?_)
   · skip
     rw [if_pos hc10] at h
     have t11 := eq_true hc10
     refine rg tok [4, 5] fun K hK => ?_
     simp only [go_sem, rL, rD, rE, rA, t11]
     refine hK _ _ ?_
     refine zi ?_
     obtain rfl := h
     exact retA
   · skip
     rw [if_neg hc10] at h
     have t12 := eq_false hc10
     refine zh ?_
     refine hZ7 _ _ ?_
     refine rgE tok [1, 4, 9, 10, 11] fun K hK => ?_
     simp only [go_sem, rL, rE, hw4, t12]
     refine hK _ _ ?_
     exact ⟨_, _, _, Nat.lt_succ_self q4.length, ⟨p4 ++ [y4], q4, x2 + 1, rfl, rfl, rfl, hE'4, hi'4, h⟩, (.t [0] false)⟩
theorem check_Field.ev (a0 : GMessage) (a1 : Int) (r : GField × Bool) (h : check_Field a0 a1 = r) (σ : Store) : ACalls Tryd.prog 56 [.agg (encGMessage a0), .int .i64 a1] σ (fun r' σ' => r' = .tup [.agg (encGField r.1), .bool r.2] ∧ σ' = σ) :=
 (check_Field.ok a0 a1 r h).c σ
def valid_Number (a0 : GType) (a1 : Int) : Bool :=
 (if a0.fKind = 1 then ((decide ((-2147483648) ≤ a1)) && (decide (a1 ≤ 2147483647))) else (if a0.fKind = 3 then ((decide (a1 = 0)) || (decide (a1 = 1))) else (if a0.fKind = 6 then ((decide (0 ≤ a1)) && (decide (a1 ≤ 2147483647))) else decide (a0.fKind = 2))))
theorem valid_Number.ok (a0 : GType) (a1 : Int) (r : Bool) (h : valid_Number a0 a1 = r) : ACalls Tryd.prog 84 [.agg (encGType a0), .int .i64 a1] [] (fun r' _ => r' = .bool r) := by
 refine zl (rs := [.tmp 4]) tok Tryd.func84 rfl Tryd.ntmps84 rfl Tryd.call84 (by simp) ?_
 refine zm [(0, .agg (encGType a0)), (1, .int .i64 a1)] ⟨rfl, rfl, trivial⟩ ?_
 unfold valid_Number at h
 refine rg tok [1, 2] fun K hK => ?_
 simp only [go_sem, rL, rE, rA, reduceCtorEq, encGType]
 refine hK _ _ ?_
 refine ze fun Z1 hZ1 => ?_
 refine rg tok [1, 2, 6] fun K hK => ?_
 simp only [go_sem, rL, rE, rA]
 refine hK _ _ ?_
 refine zj ?_
 refine rg tok [1, 2, 6, 7] fun K hK => ?_
 simp only [go_sem, rL, rE]
 refine hK _ _ ?_
 refine awp_if rfl (fun hc2 => ?_) (fun hc2 => ?_)
 · skip
   rw [if_pos hc2] at h
   have t3 := eq_true hc2
   refine rc [4] fun K hK => ?_
   refine za tok 3 ?_
   simp only [go_sem, rL, rE, t3]
   refine zn 3 (fun L τ => L = ([(14, .bool ((decide ((-2147483648) ≤ a1)) && (decide (a1 ≤ 2147483647))))] : List (Nat × AV)) ∧ τ = ([.cells 0 [.int .i64 a0.fKind, .str a0.fName]] : Store)) ?_ ?_
   · refine ops_if 11 rfl (fun hg11 => ?_) (fun hg11 => ?_)
     · skip
       have t4 := eq_true hg11
       refine za tok 3 ?_
       simp only [go_sem, rL, rE]
       refine zb ⟨rfl, _, _, ⟨rfl, rfl⟩, .p t4⟩
     · skip
       have t5 := eq_false hg11
       refine za tok 3 ?_
       simp only [go_sem, rL, rE]
       refine zb ⟨rfl, _, _, ⟨rfl, rfl⟩, .p t5⟩
   rintro _ _ ⟨rfl, rfl⟩
   refine za tok 1 ?_
   simp only [go_sem, rL]
   refine zb ?_
   simp only [zd, upd, rE, reduceIte, zk, fs_nil]
   refine hK _ _ ?_
   refine zi ?_
   obtain rfl := h
   exact retA
 · skip
   rw [if_neg hc2] at h
   have t6 := eq_false hc2
   refine rg tok [1, 2, 6, 15] fun K hK => ?_
   simp only [go_sem, rL, rE, t6]
   refine hK _ _ ?_
   refine awp_if rfl (fun hc7 => ?_) (fun hc7 => ?_)
   · skip
     rw [if_pos hc7] at h
     have t8 := eq_true hc7
     refine rc [4] fun K hK => ?_
     refine za tok 3 ?_
     simp only [go_sem, rL, rE, t8]
     refine zn 3 (fun L τ => L = ([(22, .bool ((decide (a1 = 0)) || (decide (a1 = 1))))] : List (Nat × AV)) ∧ τ = ([.cells 0 [.int .i64 a0.fKind, .str a0.fName]] : Store)) ?_ ?_
     · refine ops_if 19 rfl (fun hg19 => ?_) (fun hg19 => ?_)
       · skip
         have t9 := eq_true hg19
         refine za tok 3 ?_
         simp only [go_sem, rL, rE]
         refine zb ⟨rfl, _, _, ⟨rfl, rfl⟩, .p t9⟩
       · skip
         have t10 := eq_false hg19
         refine za tok 3 ?_
         simp only [go_sem, rL, rE]
         refine zb ⟨rfl, _, _, ⟨rfl, rfl⟩, .p t10⟩
     rintro _ _ ⟨rfl, rfl⟩
     refine za tok 1 ?_
     simp only [go_sem, rL]
     refine zb ?_
     simp only [zd, upd, rE, reduceIte, zk, fs_nil]
     refine hK _ _ ?_
     refine zi ?_
     obtain rfl := h
     exact retA
   · skip
     rw [if_neg hc7] at h
     have t11 := eq_false hc7
     refine rg tok [1, 2, 23] fun K hK => ?_
     simp only [go_sem, rL, rE, t11]
     refine hK _ _ ?_
     refine awp_if rfl (fun hc12 => ?_) (fun hc12 => ?_)
     · skip
       rw [if_pos hc12] at h
       have t13 := eq_true hc12
       refine rc [4] fun K hK => ?_
       refine za tok 3 ?_
       simp only [go_sem, rL, rE, t13]
       refine zn 3 (fun L τ => L = ([(30, .bool ((decide (0 ≤ a1)) && (decide (a1 ≤ 2147483647))))] : List (Nat × AV)) ∧ τ = ([.cells 0 [.int .i64 a0.fKind, .str a0.fName]] : Store)) ?_ ?_
       · refine ops_if 27 rfl (fun hg27 => ?_) (fun hg27 => ?_)
         · skip
           have t14 := eq_true hg27
           refine za tok 3 ?_
           simp only [go_sem, rL, rE]
           refine zb ⟨rfl, _, _, ⟨rfl, rfl⟩, .p t14⟩
         · skip
           have t15 := eq_false hg27
           refine za tok 3 ?_
           simp only [go_sem, rL, rE]
           refine zb ⟨rfl, _, _, ⟨rfl, rfl⟩, .p t15⟩
       rintro _ _ ⟨rfl, rfl⟩
       refine za tok 1 ?_
       simp only [go_sem, rL]
       refine zb ?_
       simp only [zd, upd, rE, reduceIte, zk, fs_nil]
       refine hK _ _ ?_
       refine zi ?_
       obtain rfl := h
       exact retA
     · skip
       rw [if_neg hc12] at h
       have t16 := eq_false hc12
       refine zh ?_
       refine hZ1 _ _ ?_
       refine rg tok [4] fun K hK => ?_
       simp only [go_sem, rL, rE, rA, t16]
       refine hK _ _ ?_
       refine zi ?_
       obtain rfl := h
       exact retA
theorem valid_Number.ev (a0 : GType) (a1 : Int) (r : Bool) (h : valid_Number a0 a1 = r) (σ : Store) : ACalls Tryd.prog 84 [.agg (encGType a0), .int .i64 a1] σ (fun r' σ' => r' = .bool r ∧ σ' = σ) :=
 (valid_Number.ok a0 a1 r h).c σ
def decode_put_1 (a0 : GEntry) (a1 : Int) : Int :=
 IntKind.i64.wrap (a0.fTag - a1)
theorem decode_put_1.ok (a0 : GEntry) (a1 : Int) (r : Int) (h : decode_put_1 a0 a1 = r) : ACalls Tryd.prog 87 [.agg (cellsGEntry a0), .int .i64 a1] [] (fun r' _ => r' = .int .i64 r) := by
 refine zl (rs := [.tmp 4]) tok Tryd.func87 rfl Tryd.ntmps87 rfl Tryd.call87 (by simp) ?_
 refine zm [(0, .agg (cellsGEntry a0)), (1, .int .i64 a1)] ⟨rfl, rfl, trivial⟩ ?_
 unfold decode_put_1 at h
 refine rg tok [1, 2] fun K hK => ?_
 simp only [go_sem, rL, rE, rA, reduceCtorEq, cellsGEntry]
 refine hK _ _ ?_
 refine rg tok [4] fun K hK => ?_
 simp only [go_sem, rL, rE, rA]
 refine hK _ _ ?_
 refine zi ?_
 obtain rfl := h
 exact retA
theorem decode_put_1.ev (a0 : GEntry) (a1 : Int) (r : Int) (h : decode_put_1 a0 a1 = r) (σ : Store) : ACalls Tryd.prog 87 [.agg (cellsGEntry a0), .int .i64 a1] σ (fun r' σ' => r' = .int .i64 r ∧ σ' = σ) :=
 (decode_put_1.ok a0 a1 r h).c σ
def slices_BinarySearchFunc_Entry_decode_put_1.l6 (a0 : List GEntry) (a1 : Int) : Nat → Int → Int → Option (Int × Bool)
 | 0, _, _ => none
 | k6 + 1, x2, x3 => (if x2 < x3 then (idxL a0 (IntKind.i64.wrap (Int.fdiv (IntKind.u64.wrap (IntKind.i64.wrap (x2 + x3))) (2 ^ (min (Int.toNat 1) 64))))).bind fun y12 => bnd (decode_put_1 y12 a1) fun r15 => (if r15 < 0 then ((slices_BinarySearchFunc_Entry_decode_put_1.l6 a0 a1 k6) (IntKind.i64.wrap ((IntKind.i64.wrap (Int.fdiv (IntKind.u64.wrap (IntKind.i64.wrap (x2 + x3))) (2 ^ (min (Int.toNat 1) 64)))) + 1)) x3) else ((slices_BinarySearchFunc_Entry_decode_put_1.l6 a0 a1 k6) x2 (IntKind.i64.wrap (Int.fdiv (IntKind.u64.wrap (IntKind.i64.wrap (x2 + x3))) (2 ^ (min (Int.toNat 1) 64)))))) else (if x2 < (List.length a0 : Int) then (idxL a0 x2).bind fun y20 => bnd (decode_put_1 y20 a1) fun r23 => some (decide (r23 = 0)) else some false).bind fun c20 => some (x2, c20))
def slices_BinarySearchFunc_Entry_decode_put_1 (a0 : List GEntry) (a1 : Int) : Option (Int × Bool) :=
 (slices_BinarySearchFunc_Entry_decode_put_1.l6 a0 a1 rounds 0 (List.length a0 : Int))
theorem slices_BinarySearchFunc_Entry_decode_put_1.ok (a0 : List GEntry) (a1 : Int) (r : Int × Bool) (h : slices_BinarySearchFunc_Entry_decode_put_1 a0 a1 = some r) : ACalls Tryd.prog 86 [.ds true (List.flatMap encGEntry a0) (List.length a0) false, .int .i64 a1, .fn (.func 87) [] []] [] (fun r' _ => r' = .tup [.int .i64 r.1, .bool r.2]) := by
 refine zl (rs := [.tmp 6, .tmp 7]) tok Tryd.func86 rfl Tryd.ntmps86 rfl Tryd.call86 (by simp) ?_
 refine zm [(0, .ds true (List.flatMap encGEntry a0) (List.length a0) false), (1, .int .i64 a1), (2, .fn (.func 87) [] [])] ⟨rfl, rfl, rfl, trivial⟩ ?_
 unfold slices_BinarySearchFunc_Entry_decode_put_1 at h
 refine rg tok [0, 1, 2] fun K hK => ?_
 simp only [go_sem, rL, rE, reduceCtorEq]
 refine hK _ _ ?_
 refine rg tok [0, 1, 2, 8] fun K hK => ?_
 simp only [go_sem, rL, rE, reduceCtorEq]
 refine hK _ _ ?_
 refine rg tok [0, 1, 2, 8, 9, 10] fun K hK => ?_
 simp only [go_sem, rL, rE, reduceCtorEq]
 refine hK _ _ ?_
 refine ze fun Z1 hZ1 => ?_
 refine zj ?_
 refine zt (fun m L τ => ∃ (k6 : Nat) (x2 : Int) (x3 : Int), m = 0 + k6 ∧ L = ([(0, .ds true (List.flatMap encGEntry a0) (List.length a0) false), (1, .int .i64 a1), (2, .fn (.func 87) [] []), (8, .int .i64 (List.length a0 : Int)), (9, .int .i64 x2), (10, .int .i64 x3)] : List (Nat × AV)) ∧ τ = ([] : Store) ∧ slices_BinarySearchFunc_Entry_decode_put_1.l6 a0 a1 k6 x2 x3 = some r) _ ⟨rounds, 0, (List.length a0 : Int), rfl, rfl, rfl, h⟩ .s ?_
 rintro m L τ ⟨k6, x2, x3, rfl, rfl, rfl, h⟩
 rcases k6 with _ | k6
 · cases h
 · simp only [slices_BinarySearchFunc_Entry_decode_put_1.l6] at h
   refine ze fun Z7 hZ7 => ?_
   refine rg tok [0, 1, 2, 8, 9, 10, 17] fun K hK => ?_
   simp only [go_sem, rL, rE, reduceCtorEq]
   refine hK _ _ ?_
   refine awp_if rfl (fun hc8 => ?_) (fun hc8 => ?_)
   · skip
     rw [if_pos hc8] at h
     have t9 := eq_true hc8
     refine zh ?_
     refine hZ7 _ _ ?_
     refine zj ?_
     have f10 := conv_int (T := tab) (src := 3) (dst := 116) rfl rfl rfl
     have f11 := conv_int (T := tab) (src := 116) (dst := 3) rfl rfl rfl
     refine rg tok [0, 1, 2, 8, 9, 10, 11] fun K hK => ?_
     simp only [go_sem, rL, rE, reduceCtorEq, t9, f10, f11, evShift, Int.reduceLT]
     refine hK _ _ ?_
     refine rc [0, 1, 2, 8, 9, 10, 11, 31] fun K hK => ?_
     obtain ⟨y12, hy12, h⟩ := bind_some h
     have f13 := E40.idxS hy12
     have f14 := E40.loadS rfl rfl hy12
     obtain ⟨r15, hr15, h⟩ := bnd_elim h
     refine za tok 6 ?_
     simp only [go_sem, rL, rE, reduceCtorEq, cellsGEntry, zy, f13, f14]
     refine zf rfl rfl rfl (decode_put_1.ev y12 a1 r15 hr15 _) ?_
     rintro _ _ ⟨rfl, rfl⟩
     refine za tok 1 ?_
     simp only [go_sem, rL, rE, reduceCtorEq]
     refine zb ?_
     simp only [zd, upd, rE, reduceIte, zk, fs_nil]
     refine hK _ _ ?_
     refine awp_if rfl (fun hc16 => ?_) (fun hc16 => ?_)
     · skip
       rw [if_pos hc16] at h
       have t17 := eq_true hc16
       refine rgE tok [0, 1, 2, 8, 9, 10] fun K hK => ?_
       simp only [go_sem, rL, rE, reduceCtorEq, t17]
       refine hK _ _ ?_
       exact ⟨_, _, _, Nat.lt_succ_self (0 + k6), ⟨k6, IntKind.i64.wrap ((IntKind.i64.wrap (Int.fdiv (IntKind.u64.wrap (IntKind.i64.wrap (x2 + x3))) (2 ^ (min (Int.toNat 1) 64)))) + 1), x3, rfl, rfl, rfl, h⟩, .s⟩
     · skip
       rw [if_neg hc16] at h
       have t18 := eq_false hc16
       refine rgE tok [0, 1, 2, 8, 9, 10] fun K hK => ?_
       simp only [go_sem, rL, rE, reduceCtorEq, t18]
       refine hK _ _ ?_
       exact ⟨_, _, _, Nat.lt_succ_self (0 + k6), ⟨k6, x2, IntKind.i64.wrap (Int.fdiv (IntKind.u64.wrap (IntKind.i64.wrap (x2 + x3))) (2 ^ (min (Int.toNat 1) 64))), rfl, rfl, rfl, h⟩, .s⟩
   · skip
     rw [if_neg hc8] at h
     have t19 := eq_false hc8
     refine zx ?_
     refine hZ1 _ _ ?_
     refine rc [6, 7] fun K hK => ?_
     refine za tok 5 ?_
     simp only [go_sem, rL, rE, reduceCtorEq, t19]
     obtain ⟨c20, hc20, h⟩ := bind_some h
     refine zn 9 (fun L τ => L = ([(35, .int .i64 x2), (48, .bool c20)] : List (Nat × AV)) ∧ τ = ([] : Store)) ?_ ?_
     · refine ops_if 39 rfl (fun hg39 => ?_) (fun hg39 => ?_)
       · skip
         have t21 := eq_true hg39
         rw [if_pos hg39] at hc20
         obtain ⟨y22, hy22, hc20⟩ := bind_some hc20
         have f23 := E40.idxS hy22
         have f24 := E40.loadS rfl rfl hy22
         obtain ⟨r25, hr25, hc20⟩ := bnd_elim hc20
         refine za tok 6 ?_
         simp only [go_sem, rL, rE, reduceCtorEq, cellsGEntry, zy, f23, f24]
         refine zf rfl rfl rfl (decode_put_1.ev y22 a1 r25 hr25 _) ?_
         rintro _ _ ⟨rfl, rfl⟩
         refine za tok 2 ?_
         simp only [go_sem, rL, rE, reduceCtorEq]
         obtain rfl := Option.some.inj hc20
         refine zb ⟨rfl, _, _, ⟨rfl, rfl⟩, .p t21⟩
       · skip
         have t26 := eq_false hg39
         rw [if_neg hg39] at hc20
         refine za tok 9 ?_
         simp only [go_sem, rL, rE, reduceCtorEq]
         obtain rfl := Option.some.inj hc20
         refine zb ⟨rfl, _, _, ⟨rfl, rfl⟩, .p t26⟩
     rintro _ _ ⟨rfl, rfl⟩
     refine za tok 2 ?_
     simp only [go_sem, rL, rE]
     refine zb ?_
     simp only [zd, upd, rE, reduceIte, zk, fs_nil]
     refine hK _ _ ?_
     refine zi ?_
     obtain rfl := Option.some.inj h
     exact retA
def valid_Zero (a0 : GTree) : Bool :=
 ((((((decide (1 ≤ a0.fKind)) && (decide (a0.fKind ≤ 3))) && (decide (a0.fN = 0))) && (decide (a0.fS = []))) && (decide ((List.length a0.fEntries : Int) = 0))) && (decide ((List.length a0.fRest : Int) = 0)))
theorem valid_Zero.ok (a0 : GTree) (r : Bool) (h : valid_Zero a0 = r) : ACalls Tryd.prog 61 [.agg (cellsGTree a0)] [] (fun r' _ => r' = .bool r) := by
 refine zl (rs := [.tmp 2]) tok Tryd.func61 rfl Tryd.ntmps61 rfl Tryd.call61 (by simp) ?_
 refine zm [(0, .agg (cellsGTree a0))] ⟨rfl, trivial⟩ ?_
 unfold valid_Zero at h
 refine rg tok [1] fun K hK => ?_
 simp only [go_sem, rL, rE, rA, reduceCtorEq, cellsGTree]
 refine hK _ _ ?_
 refine rc [2] fun K hK => ?_
 refine za tok 4 ?_
 simp only [go_sem, rL, rE, rA]
 refine zn 4 (fun L τ => L = ([(1, .op 0 0 0), (10, .bool ((decide (1 ≤ a0.fKind)) && (decide (a0.fKind ≤ 3))))] : List (Nat × AV)) ∧ τ = ([.cells 0 [.int .i64 a0.fKind, .int .i64 a0.fN, .str a0.fS, .ds true (List.flatMap encGEntry a0.fEntries) (List.length a0.fEntries) false, .ds true (List.flatMap encGRaw a0.fRest) (List.length a0.fRest) false]] : Store)) ?_ ?_
 · refine ops_if 6 rfl (fun hg6 => ?_) (fun hg6 => ?_)
   · skip
     have t1 := eq_true hg6
     refine za tok 4 ?_
     simp only [go_sem, rL, rE, rA]
     refine zb ⟨rfl, _, _, ⟨rfl, rfl⟩, .p t1⟩
   · skip
     have t2 := eq_false hg6
     refine za tok 4 ?_
     simp only [go_sem, rL, rE]
     refine zb ⟨rfl, _, _, ⟨rfl, rfl⟩, .p t2⟩
 rintro _ _ ⟨rfl, rfl⟩
 refine za tok 1 ?_
 simp only [go_sem, rL, rE]
 refine zn 4 (fun L τ => L = ([(1, .op 0 0 0), (15, .bool (((decide (1 ≤ a0.fKind)) && (decide (a0.fKind ≤ 3))) && (decide (a0.fN = 0))))] : List (Nat × AV)) ∧ τ = ([.cells 0 [.int .i64 a0.fKind, .int .i64 a0.fN, .str a0.fS, .ds true (List.flatMap encGEntry a0.fEntries) (List.length a0.fEntries) false, .ds true (List.flatMap encGRaw a0.fRest) (List.length a0.fRest) false]] : Store)) ?_ ?_
 · refine opsWp_at (b := ((decide (1 ≤ a0.fKind)) && (decide (a0.fKind ≤ 3)))) 11 rfl (fun hg11 => ?_) (fun hg11 => ?_)
   · skip
     refine za tok 4 ?_
     simp only [go_sem, rL, rE, rA]
     refine zb ⟨rfl, _, _, ⟨rfl, rfl⟩, .b hg11⟩
   · skip
     refine za tok 4 ?_
     simp only [go_sem, rL, rE]
     refine zb ⟨rfl, _, _, ⟨rfl, rfl⟩, .b hg11⟩
 rintro _ _ ⟨rfl, rfl⟩
 refine za tok 1 ?_
 simp only [go_sem, rL, rE]
 refine zn 4 (fun L τ => L = ([(1, .op 0 0 0), (20, .bool ((((decide (1 ≤ a0.fKind)) && (decide (a0.fKind ≤ 3))) && (decide (a0.fN = 0))) && (decide (a0.fS = []))))] : List (Nat × AV)) ∧ τ = ([.cells 0 [.int .i64 a0.fKind, .int .i64 a0.fN, .str a0.fS, .ds true (List.flatMap encGEntry a0.fEntries) (List.length a0.fEntries) false, .ds true (List.flatMap encGRaw a0.fRest) (List.length a0.fRest) false]] : Store)) ?_ ?_
 · refine opsWp_at (b := (((decide (1 ≤ a0.fKind)) && (decide (a0.fKind ≤ 3))) && (decide (a0.fN = 0)))) 16 rfl (fun hg16 => ?_) (fun hg16 => ?_)
   · skip
     refine za tok 4 ?_
     simp only [go_sem, rL, rE, rA]
     refine zb ⟨rfl, _, _, ⟨rfl, rfl⟩, .b hg16⟩
   · skip
     refine za tok 4 ?_
     simp only [go_sem, rL, rE]
     refine zb ⟨rfl, _, _, ⟨rfl, rfl⟩, .b hg16⟩
 rintro _ _ ⟨rfl, rfl⟩
 refine za tok 1 ?_
 simp only [go_sem, rL, rE]
 refine zn 5 (fun L τ => L = ([(1, .op 0 0 0), (26, .bool (((((decide (1 ≤ a0.fKind)) && (decide (a0.fKind ≤ 3))) && (decide (a0.fN = 0))) && (decide (a0.fS = []))) && (decide ((List.length a0.fEntries : Int) = 0))))] : List (Nat × AV)) ∧ τ = ([.cells 0 [.int .i64 a0.fKind, .int .i64 a0.fN, .str a0.fS, .ds true (List.flatMap encGEntry a0.fEntries) (List.length a0.fEntries) false, .ds true (List.flatMap encGRaw a0.fRest) (List.length a0.fRest) false]] : Store)) ?_ ?_
 · refine opsWp_at (b := ((((decide (1 ≤ a0.fKind)) && (decide (a0.fKind ≤ 3))) && (decide (a0.fN = 0))) && (decide (a0.fS = [])))) 21 rfl (fun hg21 => ?_) (fun hg21 => ?_)
   · skip
     refine za tok 5 ?_
     simp only [go_sem, rL, rE, rA]
     refine zb ⟨rfl, _, _, ⟨rfl, rfl⟩, .b hg21⟩
   · skip
     refine za tok 5 ?_
     simp only [go_sem, rL, rE]
     refine zb ⟨rfl, _, _, ⟨rfl, rfl⟩, .b hg21⟩
 rintro _ _ ⟨rfl, rfl⟩
 refine za tok 1 ?_
 simp only [go_sem, rL, rE]
 refine zn 5 (fun L τ => L = ([(32, .bool ((((((decide (1 ≤ a0.fKind)) && (decide (a0.fKind ≤ 3))) && (decide (a0.fN = 0))) && (decide (a0.fS = []))) && (decide ((List.length a0.fEntries : Int) = 0))) && (decide ((List.length a0.fRest : Int) = 0))))] : List (Nat × AV)) ∧ τ = ([.cells 0 [.int .i64 a0.fKind, .int .i64 a0.fN, .str a0.fS, .ds true (List.flatMap encGEntry a0.fEntries) (List.length a0.fEntries) false, .ds true (List.flatMap encGRaw a0.fRest) (List.length a0.fRest) false]] : Store)) ?_ ?_
 · refine opsWp_at (b := (((((decide (1 ≤ a0.fKind)) && (decide (a0.fKind ≤ 3))) && (decide (a0.fN = 0))) && (decide (a0.fS = []))) && (decide ((List.length a0.fEntries : Int) = 0)))) 27 rfl (fun hg27 => ?_) (fun hg27 => ?_)
   · skip
     refine za tok 5 ?_
     simp only [go_sem, rL, rE, rA]
     refine zb ⟨rfl, _, _, ⟨rfl, rfl⟩, .b hg27⟩
   · skip
     refine za tok 5 ?_
     simp only [go_sem, rL, rE]
     refine zb ⟨rfl, _, _, ⟨rfl, rfl⟩, .b hg27⟩
 rintro _ _ ⟨rfl, rfl⟩
 refine za tok 1 ?_
 simp only [go_sem, rL]
 refine zb ?_
 simp only [zd, upd, rE, reduceIte, zk, fs_nil]
 refine hK _ _ ?_
 refine zi ?_
 obtain rfl := h
 exact retA
theorem valid_Zero.ev (a0 : GTree) (r : Bool) (h : valid_Zero a0 = r) (σ : Store) : ACalls Tryd.prog 61 [.agg (cellsGTree a0)] σ (fun r' σ' => r' = .bool r ∧ σ' = σ) :=
 (valid_Zero.ok a0 r h).c σ
def decode_message_1 (a0 : GEntry) (a1 : GMessage) : Option Bool :=
 bnd (check_Field a1 a0.fTag) fun r1 => (if r1.1.fLabel = 1 then (idxL a0.fTrees 0).bind fun y2 => bnd (valid_Zero y2) fun r5 => some r5 else some false).bind fun c2 => some c2
theorem decode_message_1.ok (a0 : GEntry) (a1 : GMessage) (r : Bool) (h : decode_message_1 a0 a1 = some r) : ACalls Tryd.prog 60 [.agg (cellsGEntry a0), .dp (encGMessage a1) 0] [] (fun r' _ => r' = .bool r) := by
 refine zl (rs := [.tmp 3]) tok Tryd.func60 rfl Tryd.ntmps60 rfl Tryd.call60 (by simp) ?_
 refine zm [(0, .agg (cellsGEntry a0)), (1, .dp (encGMessage a1) 0)] ⟨rfl, rfl, trivial⟩ ?_
 unfold decode_message_1 at h
 refine rg tok [1, 2] fun K hK => ?_
 simp only [go_sem, rL, rE, rA, reduceCtorEq, cellsGEntry]
 refine hK _ _ ?_
 refine rc [2, 4] fun K hK => ?_
 obtain ⟨r1, hr1, h⟩ := bnd_elim h
 refine za tok 3 ?_
 simp only [go_sem, rL, rD, rE, rA, encGMessage, evLoad_dp]
 refine zf rfl rfl rfl (check_Field.ev a1 a0.fTag r1 hr1 _) ?_
 rintro _ _ ⟨rfl, rfl⟩
 refine za tok 6 ?_
 simp only [go_sem, rL, rD, rE, rA, encGField]
 refine zb ?_
 simp only [zd, upd, rE, reduceIte, zk, fs_nil]
 refine hK _ _ ?_
 refine rc [3] fun K hK => ?_
 refine za tok 4 ?_
 simp only [go_sem, rL, rE, rA]
 obtain ⟨c2, hc2, h⟩ := bind_some h
 refine zn 6 (fun L τ => L = ([(22, .bool c2)] : List (Nat × AV)) ∧ τ = ([.cells 0 [.int .i64 a0.fTag, .ds true (List.flatMap encGTree a0.fTrees) (List.length a0.fTrees) false], .cells 0 [.str r1.1.fName, .int .i64 r1.1.fTag, .int .i64 r1.1.fLabel, .int .i64 r1.1.fType.fKind, .str r1.1.fType.fName]] : Store)) ?_ ?_
 · refine ops_if 16 rfl (fun hg16 => ?_) (fun hg16 => ?_)
   · skip
     have t3 := eq_true hg16
     rw [if_pos hg16] at hc2
     obtain ⟨y4, hy4, hc2⟩ := bind_some hc2
     have f5 := E59.idxS hy4
     have f6 := E59.loadS rfl rfl hy4
     obtain ⟨r7, hr7, hc2⟩ := bnd_elim hc2
     refine za tok 4 ?_
     simp only [go_sem, rL, rE, rA, cellsGTree, encGTree_eq, f5, f6]
     refine zf rfl rfl rfl (valid_Zero.ev y4 r7 hr7 _) ?_
     rintro _ _ ⟨rfl, rfl⟩
     refine za tok 1 ?_
     simp only [go_sem, rL, rE]
     obtain rfl := Option.some.inj hc2
     refine zb ⟨rfl, _, _, ⟨rfl, rfl⟩, .p t3⟩
   · skip
     have t8 := eq_false hg16
     rw [if_neg hg16] at hc2
     refine za tok 6 ?_
     simp only [go_sem, rL, rE]
     obtain rfl := Option.some.inj hc2
     refine zb ⟨rfl, _, _, ⟨rfl, rfl⟩, .p t8⟩
 rintro _ _ ⟨rfl, rfl⟩
 refine za tok 1 ?_
 simp only [go_sem, rL]
 refine zb ?_
 simp only [zd, upd, rE, reduceIte, zk, fs_nil]
 refine hK _ _ ?_
 refine zi ?_
 obtain rfl := Option.some.inj h
 exact retA
theorem decode_message_1.ev (a0 : GEntry) (a1 : GMessage) (r : Bool) (h : decode_message_1 a0 a1 = some r) (σ : Store) : ACalls Tryd.prog 60 [.agg (cellsGEntry a0), .dp (encGMessage a1) 0] σ (fun r' σ' => r' = .bool r ∧ σ' = σ) :=
 (decode_message_1.ok a0 a1 r h).c σ
def slices_IndexFunc_Entry_decode_message_1.l4 (a1_0 : GMessage) : List GEntry → Int → Option Int
 | [], x2 => some (-1)
 | y4 :: q4, x2 => (decode_message_1 y4 a1_0).bind fun r10 => (if r10 = true then some x2 else ((slices_IndexFunc_Entry_decode_message_1.l4 a1_0 q4) (x2 + 1)))
def slices_IndexFunc_Entry_decode_message_1 (a0 : List GEntry) (a1_0 : GMessage) : Option Int :=
 (slices_IndexFunc_Entry_decode_message_1.l4 a1_0 a0 0)
theorem slices_IndexFunc_Entry_decode_message_1.ok (a0 : List GEntry) (a1_0 : GMessage) (r : Int) (h : slices_IndexFunc_Entry_decode_message_1 a0 a1_0 = some r) : ACalls Tryd.prog 89 [.ds true (List.flatMap encGEntry a0) (List.length a0) false, .fn (.func 60) [] [.dp (encGMessage a1_0) 0]] [] (fun r' _ => r' = .int .i64 r) := by
 refine zl (rs := [.tmp 4]) tok Tryd.func89 rfl Tryd.ntmps89 rfl Tryd.call89 (by simp) ?_
 refine zm [(0, .ds true (List.flatMap encGEntry a0) (List.length a0) false), (1, .fn (.func 60) [] [.dp (encGMessage a1_0) 0])] ⟨rfl, rfl, trivial⟩ ?_
 unfold slices_IndexFunc_Entry_decode_message_1 at h
 refine rg tok [0, 1] fun K hK => ?_
 simp only [go_sem, rL, rE, reduceCtorEq]
 refine hK _ _ ?_
 refine ze fun Z1 hZ1 => ?_
 refine rg tok [0, 1, 7, 8] fun K hK => ?_
 simp only [go_sem, rL, rE, reduceCtorEq]
 refine hK _ _ ?_
 refine zj ?_
 refine awp_deep 0 fun hb4 => ?_
 replace hb4 : List.length a0 ≤ 9223372036854775807 := hb4.1
 refine zt (fun m L τ => ∃ (p4 q4 : List GEntry) (x2 : Int), m = List.length q4 ∧ L = ([(0, .ds true (List.flatMap encGEntry a0) (List.length a0) false), (1, .fn (.func 60) [] [.dp (encGMessage a1_0) 0]), (7, .int .i64 (List.length a0 : Int)), (8, .int .i64 x2)] : List (Nat × AV)) ∧ τ = ([] : Store) ∧ a0 = p4 ++ q4 ∧ x2 = (List.length p4 : Int) ∧ slices_IndexFunc_Entry_decode_message_1.l4 a1_0 q4 x2 = some r) _ ⟨[], a0, 0, rfl, rfl, rfl, rfl, rfl, h⟩ .s ?_
 rintro m L τ ⟨p4, q4, x2, rfl, rfl, rfl, hE4, hi4, h⟩
 rcases q4 with _ | ⟨y4, q4⟩
 · have hz4 := zip_nil hE4 hi4
   simp only [slices_IndexFunc_Entry_decode_message_1.l4] at h
   refine rg tok [0, 1, 7, 8, 9] fun K hK => ?_
   simp only [go_sem, rL, rE, reduceCtorEq, hz4]
   refine hK _ _ ?_
   refine ze fun Z5 hZ5 => ?_
   refine zp rfl ?_
   refine zx ?_
   refine hZ1 _ _ ?_
   refine rg tok [4] fun K hK => ?_
   simp only [go_sem, rL, rE, reduceCtorEq]
   refine hK _ _ ?_
   refine zi ?_
   obtain rfl := Option.some.inj h
   exact retA
 · obtain ⟨hz4, hw4, hx4, hE'4, hi'4⟩ := zip_cons hE4 hi4 hb4
   simp only [slices_IndexFunc_Entry_decode_message_1.l4] at h
   refine rg tok [0, 1, 7, 8, 9] fun K hK => ?_
   simp only [go_sem, rL, rE, reduceCtorEq, hz4]
   refine hK _ _ ?_
   refine ze fun Z6 hZ6 => ?_
   refine zr rfl ?_
   refine zh ?_
   refine hZ6 _ _ ?_
   refine ze fun Z7 hZ7 => ?_
   refine zj ?_
   refine rg tok [0, 1, 5, 7, 8] fun K hK => ?_
   simp only [go_sem, rL, rE, reduceCtorEq]
   refine hK _ _ ?_
   refine rc [0, 1, 5, 7, 8, 16] fun K hK => ?_
   have f8 := E40.idxS hx4
   have f9 := E40.loadS rfl rfl hx4
   obtain ⟨r10, hr10, h⟩ := bind_some h
   refine za tok 5 ?_
   simp only [go_sem, rL, rE, reduceCtorEq, cellsGEntry, zy, f8, f9]
   refine zf rfl rfl rfl (decode_message_1.ev y4 a1_0 r10 hr10 _) ?_
   rintro _ _ ⟨rfl, rfl⟩
   refine zb ?_
   simp only [zd, updO, upd, rE, reduceIte, zk, fs_nil]
   refine hK _ _ ?_
   refine zw (b := r10) rfl (fun hc11 => ?_) (fun hc11 => ?_)
   · skip
     rw [if_pos hc11] at h
     refine rg tok [4] fun K hK => ?_
     simp only [go_sem, rL, rE, reduceCtorEq]
     refine hK _ _ ?_
     refine zi ?_
     obtain rfl := Option.some.inj h
     exact retA
   · skip
     rw [if_F hc11] at h
     refine zh ?_
     refine hZ7 _ _ ?_
     refine rgE tok [0, 1, 7, 8] fun K hK => ?_
     simp only [go_sem, rL, rE, reduceCtorEq, hw4]
     refine hK _ _ ?_
     exact ⟨_, _, _, Nat.lt_succ_self q4.length, ⟨p4 ++ [y4], q4, x2 + 1, rfl, rfl, rfl, hE'4, hi'4, h⟩, .s⟩
def wire_Sorted.j20 (x5 : Int) (l4 : List GRaw) (rec8 : Int → List GRaw → Option (List GRaw)) (y8 : GRaw) (x15 : Int) (rec17 : Int → Option (List GRaw)) (x19 : Bool) : Option (List GRaw) :=
 (if x19 = true then (rec17 (IntKind.i64.wrap (x15 - 1))) else (grd ((0 : Int) ≤ IntKind.i64.wrap (x15 + 1) ∧ IntKind.i64.wrap (x15 + 1) ≤ x5 + 1 ∧ x5 + 1 ≤ (List.length l4 : Int))).bind fun _u22 => (grd ((0 : Int) ≤ x15 ∧ x15 ≤ x5 ∧ x5 ≤ (List.length l4 : Int))).bind fun _u24 => (idxL (copyI l4 (Int.toNat (IntKind.i64.wrap (x15 + 1))) (Int.toNat x15) (min (Int.toNat x5 - Int.toNat x15) (Int.toNat (x5 + 1) - Int.toNat (IntKind.i64.wrap (x15 + 1))))) x15).bind fun y28 => (rec8 (x5 + 1) (setI (copyI l4 (Int.toNat (IntKind.i64.wrap (x15 + 1))) (Int.toNat x15) (min (Int.toNat x5 - Int.toNat x15) (Int.toNat (x5 + 1) - Int.toNat (IntKind.i64.wrap (x15 + 1))))) x15 y8)))
def wire_Sorted.l17 (x5 : Int) (l4 : List GRaw) (rec8 : Int → List GRaw → Option (List GRaw)) (y8 : GRaw) : Nat → Int → Option (List GRaw)
 | 0, _ => none
 | k17 + 1, x15 => (if 0 < x15 then (idxL l4 (IntKind.i64.wrap (x15 - 1))).bind fun y33 => (wire_Sorted.j20 x5 l4 rec8 y8 x15 (wire_Sorted.l17 x5 l4 rec8 y8 k17) (decide (y8.fTag < y33.fTag))) else (wire_Sorted.j20 x5 l4 rec8 y8 x15 (wire_Sorted.l17 x5 l4 rec8 y8 k17) false))
def wire_Sorted.l8 : List GRaw → Int → List GRaw → Option (List GRaw)
 | [], x5, l4 => some l4
 | y8 :: q8, x5, l4 => (wire_Sorted.l17 x5 l4 (wire_Sorted.l8 q8) y8 rounds x5)
def wire_Sorted (a0 : List GRaw) : Option (List GRaw) :=
 (grd ((0 : Int) ≤ (List.length a0 : Int) ∧ (40 : Int) * (List.length a0 : Int) ≤ 281474976710656 ∧ (List.length a0 : Int) < 9223372036854775807)).bind fun _u1 => (wire_Sorted.l8 a0 0 (List.replicate (Int.toNat (List.length a0 : Int)) ((⟨0, 0, 0, []⟩ : GRaw) : GRaw)))
theorem wire_Sorted.ok (a0 : List GRaw) (r : List GRaw) (h : wire_Sorted a0 = some r) : ACalls Tryd.prog 15 [.ds true (List.flatMap encGRaw a0) (List.length a0) false] [] (fun r' _ => r' = .ds true (List.flatMap encGRaw r) (List.length r) false) := by
 refine zl (rs := [.tmp 2]) tok Tryd.func15 rfl Tryd.ntmps15 rfl Tryd.call15 (by simp) ?_
 refine zm [(0, .ds true (List.flatMap encGRaw a0) (List.length a0) false)] ⟨rfl, trivial⟩ ?_
 unfold wire_Sorted at h
 refine rg tok [0] fun K hK => ?_
 simp only [go_sem, rL, reduceCtorEq]
 refine hK _ _ ?_
 obtain ⟨_u1, hu1, h⟩ := bind_some h
 have gu1 := grd_some hu1
 have f2 := E22.mk0 rfl (z := ((⟨0, 0, 0, []⟩ : GRaw) : GRaw)) rfl rfl gu1 .i64 .i64
 refine rg tok [0, 3] fun K hK => ?_
 simp only [go_sem, rL, rE, reduceCtorEq, f2]
 refine hK _ _ ?_
 refine awp_tellS (L := [(0, .ds true (List.flatMap encGRaw a0) (List.length a0) false), (3, .os true 4 0 0 0 (List.length (List.replicate (Int.toNat (List.length a0 : Int)) ((⟨0, 0, 0, []⟩ : GRaw) : GRaw))) true)]) (τ := [.cells 0 (List.flatMap encGRaw (List.replicate (Int.toNat (List.length a0 : Int)) ((⟨0, 0, 0, []⟩ : GRaw) : GRaw)))]) .s ?_
 refine ze fun Z3 hZ3 => ?_
 refine rg tok [3, 10, 11, 12] fun K hK => ?_
 simp only [go_sem, rL, rE, reduceCtorEq]
 refine hK _ _ ?_
 refine zj ?_
 refine awp_deep 10 fun hb8 => ?_
 replace hb8 : List.length a0 ≤ 9223372036854775807 := hb8.1
 refine zt (fun m L τ => ∃ (p8 q8 : List GRaw) (x5 : Int) (l4 : List GRaw), m = List.length q8 ∧ L = ([(3, .os true 4 0 0 0 (List.length l4) true), (10, .ds true (List.flatMap encGRaw a0) (List.length a0) false), (11, .int .i64 (List.length a0 : Int)), (12, .int .i64 x5)] : List (Nat × AV)) ∧ τ = ([.cells 0 (List.flatMap encGRaw l4)] : Store) ∧ a0 = p8 ++ q8 ∧ x5 = (List.length p8 : Int) ∧ wire_Sorted.l8 q8 x5 l4 = some r) _ ⟨[], a0, 0, List.replicate (Int.toNat (List.length a0 : Int)) ((⟨0, 0, 0, []⟩ : GRaw) : GRaw), rfl, rfl, rfl, rfl, rfl, h⟩ .s ?_
 rintro m L τ ⟨p8, q8, x5, l4, rfl, rfl, rfl, hE8, hi8, h⟩
 rcases q8 with _ | ⟨y8, q8⟩
 · have hz8 := zip_nil hE8 hi8
   simp only [wire_Sorted.l8] at h
   refine rg tok [3, 10, 11, 12, 13] fun K hK => ?_
   simp only [go_sem, rL, rE, hz8]
   refine hK _ _ ?_
   refine ze fun Z9 hZ9 => ?_
   refine zp rfl ?_
   refine zx ?_
   refine hZ3 _ _ ?_
   refine rg tok [2] fun K hK => ?_
   simp only [go_sem, rL, rE]
   refine hK _ _ ?_
   refine zi ?_
   obtain rfl := Option.some.inj h
   exact retA
 · obtain ⟨hz8, hw8, hx8, hE'8, hi'8⟩ := zip_cons hE8 hi8 hb8
   simp only [wire_Sorted.l8] at h
   refine rg tok [3, 10, 11, 12, 13] fun K hK => ?_
   simp only [go_sem, rL, rE, hz8]
   refine hK _ _ ?_
   refine ze fun Z10 hZ10 => ?_
   refine zr rfl ?_
   refine zh ?_
   refine hZ10 _ _ ?_
   refine ze fun Z11 hZ11 => ?_
   refine zj ?_
   have f12 := E22.idxS hx8
   have f13 := E22.loadS rfl rfl hx8
   refine rg tok [3, 4, 5, 10, 11, 12] fun K hK => ?_
   simp only [go_sem, rL, rD, rE, rA, encGRaw, f12, f13]
   refine hK _ _ ?_
   refine rg tok [3, 4, 5, 6, 10, 11, 12] fun K hK => ?_
   simp only [go_sem, rL, rE]
   refine hK _ _ ?_
   refine ze fun Z14 hZ14 => ?_
   refine zj ?_
   refine zt (fun m L τ => ∃ (k17 : Nat) (x15 : Int), m = 0 + k17 ∧ L = ([(3, .os true 4 0 0 0 (List.length l4) true), (4, .int .i64 x5), (5, .op 1 0 0), (6, .int .i64 x15), (10, .ds true (List.flatMap encGRaw a0) (List.length a0) false), (11, .int .i64 (List.length a0 : Int)), (12, .int .i64 x5)] : List (Nat × AV)) ∧ τ = ([.cells 0 (List.flatMap encGRaw l4), .cells 0 [.int .i64 y8.fTag, .int .i64 y8.fWire, .int .i64 y8.fN, .str y8.fB]] : Store) ∧ wire_Sorted.l17 x5 l4 (wire_Sorted.l8 q8) y8 k17 x15 = some r) _ ⟨rounds, x5, rfl, rfl, rfl, h⟩ .s ?_
   rintro m L τ ⟨k17, x15, rfl, rfl, rfl, h⟩
   rcases k17 with _ | k17
   · cases h
   · simp only [wire_Sorted.l17] at h
     refine ze fun Z18 hZ18 => ?_
     refine awp_join (fun L τ => ∃ (x19 : Bool), L = ([(3, .os true 4 0 0 0 (List.length l4) true), (4, .int .i64 x5), (5, .op 1 0 0), (6, .int .i64 x15), (10, .ds true (List.flatMap encGRaw a0) (List.length a0) false), (11, .int .i64 (List.length a0 : Int)), (12, .int .i64 x5), (30, .bool x19)] : List (Nat × AV)) ∧ τ = ([.cells 0 (List.flatMap encGRaw l4), .cells 0 [.int .i64 y8.fTag, .int .i64 y8.fWire, .int .i64 y8.fN, .str y8.fB]] : Store) ∧ wire_Sorted.j20 x5 l4 (wire_Sorted.l8 q8) y8 x15 (wire_Sorted.l17 x5 l4 (wire_Sorted.l8 q8) y8 k17) x19 = some r) ?_ ?_
     · skip
       refine rdE [3, 4, 5, 6, 10, 11, 12, 30] fun K hK => ?_
       refine DW.start (T := tab) [.any, .any, .any, .any, .any, .any, .any, .any, .at [], .any, .at [], .any, .any] [] ?_
       refine DW.runN tok 3 ?_
       simp only [go_sem, rL, rE]
       refine DW.if 20 rfl (fun hg20 => ?_) (fun hg20 => ?_)
       · skip
         rw [if_pos hg20] at h
         have t32 := eq_true hg20
         obtain ⟨y33, hy33, h⟩ := bind_some h
         have f34 := E22.idxO hy33
         have f35 := E22.rdfO0 hy33
         refine DW.runN tok 8 ?_
         simp only [go_sem, rL, rE, rA, encGRaw, t32, f34, f35]
         refine DW.runN tok 2 ?_
         simp only [go_sem, rL, rE]
         refine DW.fin tok (by decide +kernel) rfl ?_
         simp only [zd, upd, rE, reduceIte, zk, fs_nil]
         refine hK _ _ ?_
         exact ⟨_, _, ⟨decide (y8.fTag < y33.fTag), rfl, rfl, h⟩, .s⟩
       · skip
         rw [if_neg hg20] at h
         have t36 := eq_false hg20
         refine DW.runN tok 8 ?_
         simp only [go_sem, rL, rE, t36]
         refine DW.runN tok 2 ?_
         simp only [go_sem, rL, rE]
         refine DW.fin tok (by decide +kernel) rfl ?_
         simp only [zd, upd, rE, reduceIte, zk, fs_nil]
         refine hK _ _ ?_
         exact ⟨_, _, ⟨false, rfl, rfl, h⟩, .s⟩
     rintro _ _ ⟨x19, rfl, rfl, h⟩
     unfold wire_Sorted.j20 at h
     refine zw (b := x19) rfl (fun hc21 => ?_) (fun hc21 => ?_)
     · skip
       rw [if_pos hc21] at h
       refine zh ?_
       refine hZ18 _ _ ?_
       refine zj ?_
       refine rgE tok [3, 4, 5, 6, 10, 11, 12] fun K hK => ?_
       simp only [go_sem, rL, rE]
       refine hK _ _ ?_
       exact ⟨_, _, _, Nat.lt_succ_self (0 + k17), ⟨k17, IntKind.i64.wrap (x15 - 1), rfl, rfl, rfl, h⟩, .s⟩
     · skip
       rw [if_F hc21] at h
       refine zx ?_
       refine hZ14 _ _ ?_
       obtain ⟨_u22, hu22, h⟩ := bind_some h
       have gu22 := grd_some hu22
       have f23 := fun id ver => E22.slO gu22 .i64 .i64 id ver true
       obtain ⟨_u24, hu24, h⟩ := bind_some h
       have gu24 := grd_some hu24
       have f25 := fun id ver => E22.slO gu24 .i64 .i64 id ver true
       have f26 := fun (τ : Store) (t1 t2 : Bool) => E22.cpO OneE.h gu22 gu24 t1 t2 (.cells 0 (List.flatMap encGRaw l4) :: τ) 0 0 (by simp only [Store.at_hd, if_true]) rfl
       have f27 : List.length (copyI l4 (Int.toNat (IntKind.i64.wrap (x15 + 1))) (Int.toNat x15) (min (Int.toNat x5 - Int.toNat x15) (Int.toNat (x5 + 1) - Int.toNat (IntKind.i64.wrap (x15 + 1))))) = List.length l4 := copyI_length (by omega) (by omega)
       refine rd [3, 5, 6, 10, 11, 12] fun K hK => ?_
       refine DW.start (T := tab) [.any, .any, .any, .any, .any, .any, .any, .any, .any, .any, .eff] [] ?_
       refine DW.runN tok 8 ?_
       simp only [go_sem, rL, rE, hw8, f23]
       refine DW.runN tok 3 ?_
       simp only [go_sem, rL, rE, f25, f26]
       refine DW.fin tok (by decide +kernel) rfl ?_
       simp only [zd, upd, rE, reduceIte, zk, fs_nil]
       refine hK _ _ ?_
       refine awp_tellS (L := [(3, .os true 4 0 0 0 (List.length (copyI l4 (Int.toNat (IntKind.i64.wrap (x15 + 1))) (Int.toNat x15) (min (Int.toNat x5 - Int.toNat x15) (Int.toNat (x5 + 1) - Int.toNat (IntKind.i64.wrap (x15 + 1)))))) true), (5, .op 1 0 0), (6, .int .i64 x15), (10, .ds true (List.flatMap encGRaw a0) (List.length a0) false), (11, .int .i64 (List.length a0 : Int)), (12, .int .i64 x5)]) (τ := [.cells 0 (List.flatMap encGRaw (copyI l4 (Int.toNat (IntKind.i64.wrap (x15 + 1))) (Int.toNat x15) (min (Int.toNat x5 - Int.toNat x15) (Int.toNat (x5 + 1) - Int.toNat (IntKind.i64.wrap (x15 + 1)))))), .cells 0 [.int .i64 y8.fTag, .int .i64 y8.fWire, .int .i64 y8.fN, .str y8.fB]]) (.same (by first | exact ⟨rfl, rfl, rfl, rfl, rfl, rfl, trivial⟩ | rfl | (simp only [go_sem, rE, Fits, f27, and_self] <;> rfl)) (by first | exact ⟨rfl, rfl, rfl, rfl, rfl, rfl, trivial⟩ | rfl | (simp only [go_sem, rL, rD, rE, rA, rM, rS, reduceIte, reduceCtorEq, Fits, encB, encI, encS, encK, setI_length, List.flatMap_append, List.flatMap_cons, List.flatMap_nil, List.append_nil, List.nil_append, List.length_append, List.length_cons, List.length_nil, Nat.zero_add, List.append_assoc, List.cons_append, Nat.add_assoc, encGRaw, f27, and_self] <;> rfl))) ?_
       obtain ⟨y28, hy28, h⟩ := bind_some h
       have f29 := E22.idxO hy28
       have f30 := E22.stOc hy28
       have f31 := E22.stOr hy28 (y := y8) (cs := [.int .i64 y8.fTag, .int .i64 y8.fWire, .int .i64 y8.fN, .str y8.fB]) rfl
       simp only [setRun] at f31
       refine rgE tok [3, 10, 11, 12] fun K hK => ?_
       simp only [go_sem, rL, rD, rE, rA, f29, f30, f31]
       refine hK _ _ ?_
       refine hZ11 _ _ ?_
       refine rgE tok [3, 10, 11, 12] fun K hK => ?_
       simp only [go_sem, rL, rE, hw8]
       refine hK _ _ ?_
       exact ⟨_, _, _, Nat.lt_succ_self q8.length, ⟨p8 ++ [y8], q8, x5 + 1, setI (copyI l4 (Int.toNat (IntKind.i64.wrap (x15 + 1))) (Int.toNat x15) (min (Int.toNat x5 - Int.toNat x15) (Int.toNat (x5 + 1) - Int.toNat (IntKind.i64.wrap (x15 + 1))))) x15 y8, rfl, rfl, rfl, hE'8, hi'8, h⟩, (.t [0] false)⟩
theorem wire_Sorted.ev (a0 : List GRaw) (r : List GRaw) (h : wire_Sorted a0 = some r) (σ : Store) : ACalls Tryd.prog 15 [.ds true (List.flatMap encGRaw a0) (List.length a0) false] σ (fun r' σ' => r' = .ds true (List.flatMap encGRaw r) (List.length r) false ∧ σ' = σ) :=
 (wire_Sorted.ok a0 r h).c σ
def decode_one.j4 (m4_1 : GTree) : Option (GTree × Int) :=
 some (m4_1, 0)
def decode_one.j6 (self_decode_message : GSchema → GMessage → (List UInt8) → Int → Option (GTree × Int)) (a0 : GSchema) (a1 : GType) (a2 : GRaw) (a3 : Int) (m4_1 : GTree) (x5 : Bool) : Option (GTree × Int) :=
 (if x5 = true then bnd (valid_Number a1 a2.fN) fun r8 => (if (!r8) = true then some ((⟨0, 0, [], ([] : List GEntry), ([] : List GRaw)⟩ : GTree), 11) else (decode_one.j4 m4_1)) else (if a1.fKind = 4 then (runes_Valid a2.fB).bind fun r12 => (if (!r12) = true then some ((⟨0, 0, [], ([] : List GEntry), ([] : List GRaw)⟩ : GTree), 9) else (decode_one.j4 m4_1)) else (if a1.fKind = 7 then bnd (check_Message a0 a1.fName) fun r17 => (grd (List.length a2.fB ≤ 9223372036854775807)).bind fun _u18 => (self_decode_message a0 r17.1 a2.fB (IntKind.i64.wrap (a3 + 1))).bind fun r20 => some (r20.1, r20.2) else (decode_one.j4 m4_1))))
def decode_one.j3 (self_decode_message : GSchema → GMessage → (List UInt8) → Int → Option (GTree × Int)) (a0 : GSchema) (a1 : GType) (a2 : GRaw) (a3 : Int) (m4_1 : GTree) : Option (GTree × Int) :=
 (if a1.fKind = 3 then (decode_one.j6 self_decode_message a0 a1 a2 a3 m4_1 (decide (a1.fKind = 3))) else (decode_one.j6 self_decode_message a0 a1 a2 a3 m4_1 (decide (a1.fKind = 6))))
def decode_one.j26 (self_decode_message : GSchema → GMessage → (List UInt8) → Int → Option (GTree × Int)) (a0 : GSchema) (a1 : GType) (a2 : GRaw) (a3 : Int) (m4_1 : GTree) (x25 : Bool) : Option (GTree × Int) :=
 (if x25 = true then (if a2.fWire = 1 then (decode_one.j3 self_decode_message a0 a1 a2 a3 m4_1) else some ((⟨0, 0, [], ([] : List GEntry), ([] : List GRaw)⟩ : GTree), 8)) else (if a2.fWire = 0 then (decode_one.j3 self_decode_message a0 a1 a2 a3 m4_1) else some ((⟨0, 0, [], ([] : List GEntry), ([] : List GRaw)⟩ : GTree), 8)))
def decode_one.j2 (self_decode_message : GSchema → GMessage → (List UInt8) → Int → Option (GTree × Int)) (a0 : GSchema) (a1 : GType) (a2 : GRaw) (a3 : Int) (m4_1 : GTree) : Option (GTree × Int) :=
 (if a1.fKind = 4 then (decode_one.j26 self_decode_message a0 a1 a2 a3 m4_1 (decide (a1.fKind = 4))) else (if a1.fKind = 5 then (decode_one.j26 self_decode_message a0 a1 a2 a3 m4_1 (decide (a1.fKind = 5))) else (decode_one.j26 self_decode_message a0 a1 a2 a3 m4_1 (decide (a1.fKind = 7)))))
def decode_one.body (self_decode_message : GSchema → GMessage → (List UInt8) → Int → Option (GTree × Int)) (self_decode_one : GSchema → GType → GRaw → Int → Option (GTree × Int)) (a0 : GSchema) (a1 : GType) (a2 : GRaw) (a3 : Int) : Option (GTree × Int) :=
 (if a2.fWire = 1 then (decode_one.j2 self_decode_message a0 a1 a2 a3 (⟨2, 0, a2.fB, ([] : List GEntry), ([] : List GRaw)⟩ : GTree)) else (decode_one.j2 self_decode_message a0 a1 a2 a3 (⟨1, a2.fN, [], ([] : List GEntry), ([] : List GRaw)⟩ : GTree)))
theorem decode_one.step (self_decode_message : GSchema → GMessage → (List UInt8) → Int → Option (GTree × Int)) (self_decode_one : GSchema → GType → GRaw → Int → Option (GTree × Int)) (ih_decode_message : ∀ (a0 : GSchema) (a1 : GMessage) (a2 : List UInt8) (a3 : Int) (r : GTree × Int), self_decode_message a0 a1 a2 a3 = some r → ACalls Tryd.prog 35 [.agg (encGSchema a0), .agg (encGMessage a1), .ds true (List.flatMap encB a2) (List.length a2) false, .int .i64 a3] [] (fun r' _ => r' = .tup [.agg (cellsGTree r.1), .int .i64 r.2])) (ih_decode_one : ∀ (a0 : GSchema) (a1 : GType) (a2 : GRaw) (a3 : Int) (r : GTree × Int), self_decode_one a0 a1 a2 a3 = some r → ACalls Tryd.prog 57 [.agg (encGSchema a0), .agg (encGType a1), .agg (encGRaw a2), .int .i64 a3] [] (fun r' _ => r' = .tup [.agg (cellsGTree r.1), .int .i64 r.2])) (a0 : GSchema) (a1 : GType) (a2 : GRaw) (a3 : Int) (r : GTree × Int) (h : decode_one.body self_decode_message self_decode_one a0 a1 a2 a3 = some r) : ACalls Tryd.prog 57 [.agg (encGSchema a0), .agg (encGType a1), .agg (encGRaw a2), .int .i64 a3] [] (fun r' _ => r' = .tup [.agg (cellsGTree r.1), .int .i64 r.2]) := by
 have ev_decode_message := fun a0 a1 a2 a3 r h σ => (ih_decode_message a0 a1 a2 a3 r h).c σ
 have ev_decode_one := fun a0 a1 a2 a3 r h σ => (ih_decode_one a0 a1 a2 a3 r h).c σ
 refine zl (rs := [.cell 8 42, .tmp 9]) tok Tryd.func57 rfl Tryd.ntmps57 rfl Tryd.call57 (by simp) ?_
 refine zm [(0, .agg (encGSchema a0)), (1, .agg (encGType a1)), (2, .agg (encGRaw a2)), (3, .int .i64 a3)] ⟨rfl, rfl, rfl, rfl, trivial⟩ ?_
 unfold decode_one.body at h
 refine rg tok [3, 4, 5, 6, 8] fun K hK => ?_
 simp only [go_sem, rL, rE, rA, reduceCtorEq, encGRaw, encGSchema, encGType]
 refine hK _ _ ?_
 refine rg tok [3, 4, 5, 6, 8, 10] fun K hK => ?_
 simp only [go_sem, rL, rD, rE, rA]
 refine hK _ _ ?_
 refine awp_join (fun L τ => ∃ (m4_1 : GTree), L = ([(3, .int .i64 a3), (4, .op 0 0 0), (5, .op 1 0 0), (6, .op 2 0 0), (8, .op 3 0 0), (10, .op 4 0 0)] : List (Nat × AV)) ∧ τ = ([.cells 0 [.str a0.fName, .ds true (List.flatMap encGMessage a0.fMessages) (List.length a0.fMessages) false, .ds true (List.flatMap encGEnumeration a0.fEnums) (List.length a0.fEnums) false, .ds true (List.flatMap encGMethod a0.fMethods) (List.length a0.fMethods) false], .cells 0 [.int .i64 a1.fKind, .str a1.fName], .cells 0 [.int .i64 a2.fTag, .int .i64 a2.fWire, .int .i64 a2.fN, .str a2.fB], .cells 0 [.int .i64 0, .int .i64 0, .str [], .ds true (List.flatMap encGEntry ([] : List GEntry)) (List.length ([] : List GEntry)) false, .ds true (List.flatMap encGRaw ([] : List GRaw)) (List.length ([] : List GRaw)) false], .cells 0 [.int .i64 m4_1.fKind, .int .i64 m4_1.fN, .str m4_1.fS, .ds true (List.flatMap encGEntry m4_1.fEntries) (List.length m4_1.fEntries) false, .ds true (List.flatMap encGRaw m4_1.fRest) (List.length m4_1.fRest) false]] : Store) ∧ decode_one.j2 self_decode_message a0 a1 a2 a3 m4_1 = some r) ?_ ?_
 · skip
   refine rg tok [3, 4, 5, 6, 8, 10, 18] fun K hK => ?_
   simp only [go_sem, rL, rE, rA]
   refine hK _ _ ?_
   refine awp_if rfl (fun hc40 => ?_) (fun hc40 => ?_)
   · skip
     rw [if_pos hc40] at h
     have t41 := eq_true hc40
     refine rgE tok [3, 4, 5, 6, 8, 10] fun K hK => ?_
     simp only [go_sem, rL, rD, rE, rA, t41]
     refine hK _ _ ?_
     exact ⟨_, _, ⟨(⟨2, 0, a2.fB, ([] : List GEntry), ([] : List GRaw)⟩ : GTree), rfl, rfl, h⟩, (.t [0, 1, 2, 3, 4] true)⟩
   · skip
     rw [if_neg hc40] at h
     have t42 := eq_false hc40
     refine zh ?_
     exact ⟨_, _, ⟨(⟨1, a2.fN, [], ([] : List GEntry), ([] : List GRaw)⟩ : GTree), rfl, rfl, h⟩, (.t [0, 1, 2, 3, 4] true)⟩
 rintro _ _ ⟨m4_1, rfl, rfl, h⟩
 unfold decode_one.j2 at h
 refine awp_join (fun L τ => L = ([(3, .int .i64 a3), (4, .op 0 0 0), (5, .op 1 0 0), (6, .op 2 0 0), (8, .op 3 0 0), (10, .op 4 0 0)] : List (Nat × AV)) ∧ τ = ([.cells 0 [.str a0.fName, .ds true (List.flatMap encGMessage a0.fMessages) (List.length a0.fMessages) false, .ds true (List.flatMap encGEnumeration a0.fEnums) (List.length a0.fEnums) false, .ds true (List.flatMap encGMethod a0.fMethods) (List.length a0.fMethods) false], .cells 0 [.int .i64 a1.fKind, .str a1.fName], .cells 0 [.int .i64 a2.fTag, .int .i64 a2.fWire, .int .i64 a2.fN, .str a2.fB], .cells 0 [.int .i64 0, .int .i64 0, .str [], .ds true (List.flatMap encGEntry ([] : List GEntry)) (List.length ([] : List GEntry)) false, .ds true (List.flatMap encGRaw ([] : List GRaw)) (List.length ([] : List GRaw)) false], .cells 0 [.int .i64 m4_1.fKind, .int .i64 m4_1.fN, .str m4_1.fS, .ds true (List.flatMap encGEntry m4_1.fEntries) (List.length m4_1.fEntries) false, .ds true (List.flatMap encGRaw m4_1.fRest) (List.length m4_1.fRest) false]] : Store) ∧ decode_one.j3 self_decode_message a0 a1 a2 a3 m4_1 = some r) ?_ ?_
 · skip
   refine rg tok [3, 4, 5, 6, 8, 10, 23] fun K hK => ?_
   simp only [go_sem, rL, rE, rA]
   refine hK _ _ ?_
   refine zj ?_
   refine awp_join (fun L τ => ∃ (x25 : Bool), L = ([(3, .int .i64 a3), (4, .op 0 0 0), (5, .op 1 0 0), (6, .op 2 0 0), (8, .op 3 0 0), (10, .op 4 0 0), (28, .bool x25)] : List (Nat × AV)) ∧ τ = ([.cells 0 [.str a0.fName, .ds true (List.flatMap encGMessage a0.fMessages) (List.length a0.fMessages) false, .ds true (List.flatMap encGEnumeration a0.fEnums) (List.length a0.fEnums) false, .ds true (List.flatMap encGMethod a0.fMethods) (List.length a0.fMethods) false], .cells 0 [.int .i64 a1.fKind, .str a1.fName], .cells 0 [.int .i64 a2.fTag, .int .i64 a2.fWire, .int .i64 a2.fN, .str a2.fB], .cells 0 [.int .i64 0, .int .i64 0, .str [], .ds true (List.flatMap encGEntry ([] : List GEntry)) (List.length ([] : List GEntry)) false, .ds true (List.flatMap encGRaw ([] : List GRaw)) (List.length ([] : List GRaw)) false], .cells 0 [.int .i64 m4_1.fKind, .int .i64 m4_1.fN, .str m4_1.fS, .ds true (List.flatMap encGEntry m4_1.fEntries) (List.length m4_1.fEntries) false, .ds true (List.flatMap encGRaw m4_1.fRest) (List.length m4_1.fRest) false]] : Store) ∧ decode_one.j26 self_decode_message a0 a1 a2 a3 m4_1 x25 = some r) ?_ ?_
   · skip
     refine rg tok [3, 4, 5, 6, 8, 10, 23, 28] fun K hK => ?_
     simp only [go_sem, rL, rE]
     refine hK _ _ ?_
     refine awp_if rfl (fun hc34 => ?_) (fun hc34 => ?_)
     · skip
       rw [if_pos hc34] at h
       have t35 := eq_true hc34
       refine zh ?_
       exact ⟨_, _, ⟨decide (a1.fKind = 4), rfl, rfl, h⟩, .s⟩
     · skip
       rw [if_neg hc34] at h
       have t36 := eq_false hc34
       refine rg tok [3, 4, 5, 6, 8, 10, 23, 28] fun K hK => ?_
       simp only [go_sem, rL, rE, t36]
       refine hK _ _ ?_
       refine awp_if rfl (fun hc37 => ?_) (fun hc37 => ?_)
       · skip
         rw [if_pos hc37] at h
         have t38 := eq_true hc37
         refine zh ?_
         exact ⟨_, _, ⟨decide (a1.fKind = 5), rfl, rfl, h⟩, .s⟩
       · skip
         rw [if_neg hc37] at h
         have t39 := eq_false hc37
         refine rgE tok [3, 4, 5, 6, 8, 10, 28] fun K hK => ?_
         simp only [go_sem, rL, rE, t39]
         refine hK _ _ ?_
         exact ⟨_, _, ⟨decide (a1.fKind = 7), rfl, rfl, h⟩, .s⟩
   rintro _ _ ⟨x25, rfl, rfl, h⟩
   unfold decode_one.j26 at h
   refine zw (b := x25) rfl (fun hc27 => ?_) (fun hc27 => ?_)
   · skip
     rw [if_pos hc27] at h
     refine rg tok [3, 4, 5, 6, 8, 10, 34] fun K hK => ?_
     simp only [go_sem, rL, rE, rA]
     refine hK _ _ ?_
     refine awp_if rfl (fun hc28 => ?_) (fun hc28 => ?_)
     · skip
       rw [if_neg hc28] at h
       have t29 := eq_false hc28
       refine rg tok [8, 9] fun K hK => ?_
       simp only [go_sem, rL, rD, rE, rA, t29]
       refine hK _ _ ?_
       refine zi ?_
       obtain rfl := Option.some.inj h
       exact retA
     · skip
       rw [if_pos hc28] at h
       have t30 := eq_true hc28
       refine zh ?_
       exact ⟨_, _, ⟨rfl, rfl, h⟩, .s⟩
   · skip
     rw [if_F hc27] at h
     refine rg tok [3, 4, 5, 6, 8, 10, 26] fun K hK => ?_
     simp only [go_sem, rL, rE, rA]
     refine hK _ _ ?_
     refine awp_if rfl (fun hc31 => ?_) (fun hc31 => ?_)
     · skip
       rw [if_neg hc31] at h
       have t32 := eq_false hc31
       refine rg tok [8, 9] fun K hK => ?_
       simp only [go_sem, rL, rD, rE, rA, t32]
       refine hK _ _ ?_
       refine zi ?_
       obtain rfl := Option.some.inj h
       exact retA
     · skip
       rw [if_pos hc31] at h
       have t33 := eq_true hc31
       refine zh ?_
       exact ⟨_, _, ⟨rfl, rfl, h⟩, .s⟩
 rintro _ _ ⟨rfl, rfl, h⟩
 unfold decode_one.j3 at h
 refine awp_join (fun L τ => L = ([(8, .op 0 0 0), (10, .op 1 0 0)] : List (Nat × AV)) ∧ τ = ([.cells 0 [.int .i64 0, .int .i64 0, .str [], .ds true (List.flatMap encGEntry ([] : List GEntry)) (List.length ([] : List GEntry)) false, .ds true (List.flatMap encGRaw ([] : List GRaw)) (List.length ([] : List GRaw)) false], .cells 0 [.int .i64 m4_1.fKind, .int .i64 m4_1.fN, .str m4_1.fS, .ds true (List.flatMap encGEntry m4_1.fEntries) (List.length m4_1.fEntries) false, .ds true (List.flatMap encGRaw m4_1.fRest) (List.length m4_1.fRest) false]] : Store) ∧ decode_one.j4 m4_1 = some r) ?_ ?_
 · skip
   refine rg tok [3, 4, 5, 6, 8, 10, 37] fun K hK => ?_
   simp only [go_sem, rL, rE, rA]
   refine hK _ _ ?_
   refine zj ?_
   refine awp_join (fun L τ => ∃ (x5 : Bool), L = ([(3, .int .i64 a3), (4, .op 0 0 0), (5, .op 1 0 0), (6, .op 2 0 0), (8, .op 3 0 0), (10, .op 4 0 0), (37, .int .i64 a1.fKind), (38, .bool x5)] : List (Nat × AV)) ∧ τ = ([.cells 0 [.str a0.fName, .ds true (List.flatMap encGMessage a0.fMessages) (List.length a0.fMessages) false, .ds true (List.flatMap encGEnumeration a0.fEnums) (List.length a0.fEnums) false, .ds true (List.flatMap encGMethod a0.fMethods) (List.length a0.fMethods) false], .cells 0 [.int .i64 a1.fKind, .str a1.fName], .cells 0 [.int .i64 a2.fTag, .int .i64 a2.fWire, .int .i64 a2.fN, .str a2.fB], .cells 0 [.int .i64 0, .int .i64 0, .str [], .ds true (List.flatMap encGEntry ([] : List GEntry)) (List.length ([] : List GEntry)) false, .ds true (List.flatMap encGRaw ([] : List GRaw)) (List.length ([] : List GRaw)) false], .cells 0 [.int .i64 m4_1.fKind, .int .i64 m4_1.fN, .str m4_1.fS, .ds true (List.flatMap encGEntry m4_1.fEntries) (List.length m4_1.fEntries) false, .ds true (List.flatMap encGRaw m4_1.fRest) (List.length m4_1.fRest) false]] : Store) ∧ decode_one.j6 self_decode_message a0 a1 a2 a3 m4_1 x5 = some r) ?_ ?_
   · skip
     refine rg tok [3, 4, 5, 6, 8, 10, 37, 38] fun K hK => ?_
     simp only [go_sem, rL, rE]
     refine hK _ _ ?_
     refine awp_if rfl (fun hc22 => ?_) (fun hc22 => ?_)
     · skip
       rw [if_pos hc22] at h
       have t23 := eq_true hc22
       refine zh ?_
       exact ⟨_, _, ⟨decide (a1.fKind = 3), rfl, rfl, h⟩, .s⟩
     · skip
       rw [if_neg hc22] at h
       have t24 := eq_false hc22
       refine rgE tok [3, 4, 5, 6, 8, 10, 37, 38] fun K hK => ?_
       simp only [go_sem, rL, rE, t24]
       refine hK _ _ ?_
       exact ⟨_, _, ⟨decide (a1.fKind = 6), rfl, rfl, h⟩, .s⟩
   rintro _ _ ⟨x5, rfl, rfl, h⟩
   unfold decode_one.j6 at h
   refine zw (b := x5) rfl (fun hc7 => ?_) (fun hc7 => ?_)
   · skip
     rw [if_pos hc7] at h
     refine rc [8, 10, 45] fun K hK => ?_
     obtain ⟨r8, hr8, h⟩ := bnd_elim h
     refine za tok 3 ?_
     simp only [go_sem, rL, rD, rE, rA]
     refine zf rfl rfl rfl (valid_Number.ev a1 a2.fN r8 hr8 _) ?_
     rintro _ _ ⟨rfl, rfl⟩
     refine za tok 1 ?_
     simp only [go_sem, rL, rE]
     refine zb ?_
     simp only [zd, upd, rE, reduceIte, zk, fs_nil]
     refine hK _ _ ?_
     refine zw (b := (!r8)) rfl (fun hc9 => ?_) (fun hc9 => ?_)
     · skip
       rw [if_pos hc9] at h
       refine rg tok [8, 9] fun K hK => ?_
       simp only [go_sem, rL, rD, rE, rA]
       refine hK _ _ ?_
       refine zi ?_
       obtain rfl := Option.some.inj h
       exact retA
     · skip
       rw [if_F hc9] at h
       refine zh ?_
       exact ⟨_, _, ⟨rfl, rfl, h⟩, (.t [3, 4] false)⟩
   · skip
     rw [if_F hc7] at h
     refine rg tok [3, 4, 5, 6, 8, 10, 37, 47] fun K hK => ?_
     simp only [go_sem, rL, rE]
     refine hK _ _ ?_
     refine awp_if rfl (fun hc10 => ?_) (fun hc10 => ?_)
     · skip
       rw [if_pos hc10] at h
       have t11 := eq_true hc10
       refine rc [8, 10, 52] fun K hK => ?_
       obtain ⟨r12, hr12, h⟩ := bind_some h
       refine za tok 2 ?_
       simp only [go_sem, rL, rE, rA, t11]
       refine zf rfl rfl rfl (runes_Valid.ev a2.fB r12 hr12 _) ?_
       rintro _ _ ⟨rfl, rfl⟩
       refine za tok 1 ?_
       simp only [go_sem, rL, rE]
       refine zb ?_
       simp only [zd, upd, rE, reduceIte, zk, fs_nil]
       refine hK _ _ ?_
       refine zw (b := (!r12)) rfl (fun hc13 => ?_) (fun hc13 => ?_)
       · skip
         rw [if_pos hc13] at h
         refine rg tok [8, 9] fun K hK => ?_
         simp only [go_sem, rL, rD, rE, rA]
         refine hK _ _ ?_
         refine zi ?_
         obtain rfl := Option.some.inj h
         exact retA
       · skip
         rw [if_F hc13] at h
         refine zh ?_
         exact ⟨_, _, ⟨rfl, rfl, h⟩, (.t [3, 4] false)⟩
     · skip
       rw [if_neg hc10] at h
       have t14 := eq_false hc10
       refine rg tok [3, 4, 5, 6, 8, 10, 54] fun K hK => ?_
       simp only [go_sem, rL, rE, t14]
       refine hK _ _ ?_
       refine awp_if rfl (fun hc15 => ?_) (fun hc15 => ?_)
       · skip
         rw [if_pos hc15] at h
         have t16 := eq_true hc15
         refine rc [3, 4, 6, 8, 11] fun K hK => ?_
         obtain ⟨r17, hr17, h⟩ := bnd_elim h
         refine za tok 3 ?_
         simp only [go_sem, rL, rD, rE, rA, t16]
         refine zf rfl rfl rfl (check_Message.ev a0 a1.fName r17 hr17 _) ?_
         rintro _ _ ⟨rfl, rfl⟩
         refine za tok 6 ?_
         simp only [go_sem, rL, rD, rE, rA, encGMessage]
         refine zb ?_
         simp only [zd, upd, rE, reduceIte, zk, fs_nil]
         refine hK _ _ ?_
         refine rc [8, 9] fun K hK => ?_
         obtain ⟨_u18, hu18, h⟩ := bind_some h
         have gu18 := grd_some hu18
         have gu18t := eq_true gu18
         have f19 := conv_s2b (T := tab) (src := 9) (dst := 35) rfl rfl rfl rfl rfl rfl (grd_some hu18)
         obtain ⟨r20, hr20, h⟩ := bind_some h
         refine za tok 7 ?_
         simp only [go_sem, rL, rD, rE, rA, f19]
         refine ops_tellS (L := [(8, .op 0 0 0), (63, .agg (encGSchema a0)), (64, .agg (encGMessage r17.1)), (67, .ds true (List.flatMap encB a2.fB) (List.length a2.fB) false), (69, .int .i64 (IntKind.i64.wrap (a3 + 1)))]) (τ := [.cells 0 [.int .i64 0, .int .i64 0, .str [], .ds true (List.flatMap encGEntry ([] : List GEntry)) (List.length ([] : List GEntry)) false, .ds true (List.flatMap encGRaw ([] : List GRaw)) (List.length ([] : List GRaw)) false]]) (.t [3] false) ?_
         refine zf rfl rfl rfl (ev_decode_message a0 r17.1 a2.fB (IntKind.i64.wrap (a3 + 1)) r20 hr20 _) ?_
         rintro _ _ ⟨rfl, rfl⟩
         refine za tok 4 ?_
         simp only [go_sem, rL, rD, rE, rA, cellsGTree, encGMessage, encGSchema]
         refine zb ?_
         simp only [zd, upd, rE, reduceIte, zk, fs_nil]
         refine hK _ _ ?_
         refine zi ?_
         obtain rfl := Option.some.inj h
         exact retA
       · skip
         rw [if_neg hc15] at h
         have t21 := eq_false hc15
         refine zh ?_
         exact ⟨_, _, ⟨rfl, rfl, h⟩, (.t [3, 4] false)⟩
 rintro _ _ ⟨rfl, rfl, h⟩
 unfold decode_one.j4 at h
 refine rg tok [8, 9] fun K hK => ?_
 simp only [go_sem, rL, rD, rE, rA]
 refine hK _ _ ?_
 refine zi ?_
 obtain rfl := Option.some.inj h
 exact retA
end Go.Proofs.YtaddlmlpeghonaaDoor
