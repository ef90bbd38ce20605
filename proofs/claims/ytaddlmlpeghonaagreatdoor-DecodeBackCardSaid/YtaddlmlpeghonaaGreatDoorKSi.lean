/- Parts of the proof, cut down to what it needs. -/
import Derived.Test.YtaddlmlpeghonaaGreatDoorKCf
import Derived.Test.YtaddlmlpeghonaaGreatDoorKFBa
set_option linter.constructorNameAsVariable false
set_option linter.unusedSimpArgs false
set_option linter.unusedVariables false
namespace Go.Proofs.YtaddlmlpeghonaaGreatDoor
open _root_.List renaming length → qc, flatMap → qf, length_append → qi, length_cons → qk, length_nil → ql, mem_cons_self → qp, append_assoc → qq, mem_cons_of_mem → qr, getD_eq_getElem?_getD → qu, map_nil → qv, drop_zero → qz, append_nil → qA, nil_append → qB, length_eq_zero_iff → qC, map_cons → qD, map_append → qE, length_singleton → qG, cons_append → qH, mem_cons → qM, replicate → qP, getElem?_append_left → qS, flatMap_cons → qT, getElem?_eq_getElem → qW, range_zero → qX, flatMap_append → qY, length_map → q2, getElem?_eq_some_iff → q3, all_cons → q5, range_succ → q7, all_eq_true → ua, getElem?_set_ne → ub, all_nil → ud, take_of_length_le → uh, getElem?_append_right → ui, flatMap_nil → uj, take_length → um, pairwise_cons → un, take_append_drop → uo, getElem?_set_self → ur, mem_append_right → ut, getElem?_eq_none → uu, mem_map → uv, mem_append → ux, range → uz, filter_cons → uA, set_cons_zero → uB, length_take → uF, length_drop → uG, getElem?_cons_zero → uH, getElem?_cons_succ → uI, mem_singleton → uJ, set_cons_succ → uP
open _root_.Option renaming bind_some → qg, map_some → uw, getD_some → uO
open _root_.Nat renaming reduceEqDiff → qa, reduceLT → qb, reduceAdd → qd, reduceLeDiff → qe, zero_add → qn, reduceMul → qs, le_refl → qt, lt_succ_self → qw, reduceSub → qF, mul_le_mul_right → qZ, reduceMod → uf, lt_of_lt_of_le → ug, zero_le → ul, le_trans → uq, zero_mul → uy, sub_zero → uM, sub_self → uN, succ_mul → uQ, add_zero → uR, add_assoc → uS, add_mul → uT
open _root_.Bool renaming and_eq_true → qm, not_false → qx, not_true → qI, or_true → qJ, and_false → qL, and_true → qO, or_eq_true → qQ, or_false → qR, and_self → qU, false_eq_true → q1, not_eq_true' → uD, true_and → uE, false_ne_true → uK, false_or → uL
open _root_.Int renaming toNat → qK, toNat_natCast → qV
open _root_.BitVec renaming ofInt → qy, toNat → uk
open _root_.Array renaming length_toList → ue, getD_eq_getD_getElem? → uC, getElem?_eq_getElem → uU
open _root_.UInt8 renaming ofNat → uc
open Result renaming andThen_ok → qj
open Sem renaming run_bind → qo, run_pure → qN
open _root_.Go.Proofs.Tryz renaming prog → qh
section
set_option maxRecDepth 4000
set_option maxHeartbeats 1000000
open AM
theorem yZ.ev (a0 : List UInt8) (r : Bool) (h : yZ a0 = r) (σ : Store) : ACalls qh 80 [.str a0] σ (fun r' σ' => r' = .bool r ∧ σ' = σ) :=
 (yZ.ok a0 r h).c σ
def xR (a0 : Int) : Bool :=
 ((decide (48 ≤ a0)) && (decide (a0 ≤ 57)))
theorem xR.ok (a0 : Int) (r : Bool) (h : xR a0 = r) : ACalls qh 81 [.int .i32 a0] [] (fun r' _ => r' = .bool r) := by
 refine zm (rs := [.tmp 2]) tok Tryz.func81 rfl Tryz.ntmps81 rfl Tryz.call81 (by simp) ?_
 refine zq [(0, .int .i32 a0)] ⟨rfl, trivial⟩ ?_
 unfold xR at h
 refine rg tok [0] fun K hK => ?_
 simp only [go_sem, qb, reduceCtorEq]
 apply hK
 refine rc [2] fun K hK => ?_
 refine za tok 3 ?_
 simp only [go_sem, qb, qa, reduceCtorEq]
 refine zn 3 (fun L τ => L = [(8, .bool ((decide (48 ≤ a0)) && (decide (a0 ≤ 57))))] ∧ τ = ([] : Store)) ?_ ?_
 · refine yH 5 rfl (fun hg5 => ?_) (fun hg5 => ?_)
   · have t1 := eq_true hg5
     refine za tok 3 ?_
     simp only [go_sem, qb, qa, reduceCtorEq]
     refine zb ⟨rfl, _, _, ⟨rfl, rfl⟩, .p t1⟩
   have t2 := eq_false hg5
   refine za tok 3 ?_
   simp only [go_sem, qb, qa, reduceCtorEq]
   refine zb ⟨rfl, _, _, ⟨rfl, rfl⟩, .p t2⟩
 rintro _ _ ⟨rfl, rfl⟩
 refine za tok 1 ?_
 simp only [go_sem, qb]
 refine zb ?_
 simp only [zd, upd, qa, reduceIte, zk, zo]
 apply hK
 refine zi ?_
 obtain rfl := h
 exact yy
theorem xR.ev (a0 : Int) (r : Bool) (h : xR a0 = r) (σ : Store) : ACalls qh 81 [.int .i32 a0] σ (fun r' σ' => r' = .bool r ∧ σ' = σ) :=
 (xR.ok a0 r h).c σ
def yW.l14 (r1 : List Int × Bool) : Nat → Int → Option Bool
 | 0, _ => none
 | k14 + 1, x12 => (if x12 < (qc r1.1 : Int) then (wW r1.1 x12).bind fun y19 => bnd (xe y19) fun r22 => bnd (if (!r22) = true then bnd (xR y19) fun r25 => !r25 else false) fun c23 => (if c23 = true then some false else ((yW.l14 r1 k14) (IntKind.i64.wrap (x12 + 1)))) else some true)
def yW (a0 : List UInt8) : Option Bool :=
 (xP a0).bind fun r1 => (if (((!r1.2) || (decide ((qc r1.1 : Int) < 1))) || (decide (20 < (qc r1.1 : Int)))) = true then some true else (wW r1.1 0).bind fun y3 => bnd (xe y3) fun r6 => some (!r6)).bind fun c3 => bnd (if c3 = true then true else bnd (yZ a0) fun r8 => r8) fun c8 => (if c8 = true then some false else (yW.l14 r1 rounds 1))
theorem yW.ok (a0 : List UInt8) (r : Bool) (h : yW a0 = some r) : ACalls qh 45 [.str a0] [] (fun r' _ => r' = .bool r) := by
 refine zm (rs := [.tmp 2]) tok Tryz.func45 rfl Tryz.ntmps45 rfl Tryz.call45 (by simp) ?_
 refine zq [(0, .str a0)] ⟨rfl, trivial⟩ ?_
 unfold yW at h
 refine rg tok [0] fun K hK => ?_
 simp only [go_sem, qb, reduceCtorEq]
 apply hK
 refine rc [0, 3, 4] fun K hK => ?_
 obtain ⟨r1, hr1, h⟩ := bind_some h
 refine za tok 1 ?_
 simp only [go_sem, qb]
 refine zh rfl rfl rfl (xP.ev a0 r1 hr1 _) ?_
 rintro _ _ ⟨rfl, rfl⟩
 refine za tok 5 ?_
 simp only [go_sem, qb, qa, qd, reduceCtorEq]
 refine zb ?_
 simp only [zd, upd, qa, reduceIte, zk, zo]
 apply hK
 refine ze fun Z2 hZ2 => ?_
 refine rc [3, 33] fun K hK => ?_
 refine za tok 3 ?_
 simp only [go_sem, qb, qa, reduceCtorEq]
 refine zn 4 (fun L τ => L = [(0, .str a0), (3, .ds true (qf (vaz .i32) r1.1) (qc r1.1) false), (17, .bool ((!r1.2) || (decide ((qc r1.1 : Int) < 1))))] ∧ τ = ([] : Store)) ?_ ?_
 · refine zQ (b := (!r1.2)) 13 rfl (fun hg13 => ?_) (fun hg13 => ?_)
   · refine za tok 4 ?_
     simp only [go_sem, qb, qa, reduceCtorEq]
     refine zb ⟨rfl, _, _, ⟨rfl, rfl⟩, .b hg13⟩
   refine za tok 4 ?_
   simp only [go_sem, qb, qa, reduceCtorEq]
   refine zb ⟨rfl, _, _, ⟨rfl, rfl⟩, .b hg13⟩
 rintro _ _ ⟨rfl, rfl⟩
 refine za tok 1 ?_
 simp only [go_sem, qb, qa, reduceCtorEq]
 refine zn 4 (fun L τ => L = [(0, .str a0), (3, .ds true (qf (vaz .i32) r1.1) (qc r1.1) false), (22, .bool (((!r1.2) || (decide ((qc r1.1 : Int) < 1))) || (decide (20 < (qc r1.1 : Int)))))] ∧ τ = ([] : Store)) ?_ ?_
 · refine zQ (b := ((!r1.2) || (decide ((qc r1.1 : Int) < 1)))) 18 rfl (fun hg18 => ?_) (fun hg18 => ?_)
   · refine za tok 4 ?_
     simp only [go_sem, qb, qa, reduceCtorEq]
     refine zb ⟨rfl, _, _, ⟨rfl, rfl⟩, .b hg18⟩
   refine za tok 4 ?_
   simp only [go_sem, qb, qa, reduceCtorEq]
   refine zb ⟨rfl, _, _, ⟨rfl, rfl⟩, .b hg18⟩
 rintro _ _ ⟨rfl, rfl⟩
 refine za tok 1 ?_
 simp only [go_sem, qb, qa, reduceCtorEq]
 obtain ⟨c3, hc3, h⟩ := bind_some h
 refine zn 6 (fun L τ => L = [(0, .str a0), (3, .ds true (qf (vaz .i32) r1.1) (qc r1.1) false), (29, .bool c3)] ∧ τ = ([] : Store)) ?_ ?_
 · refine zQ (b := (((!r1.2) || (decide ((qc r1.1 : Int) < 1))) || (decide (20 < (qc r1.1 : Int))))) 23 rfl (fun hg23 => ?_) (fun hg23 => ?_)
   · rw [if_pos hg23] at hc3
     refine za tok 6 ?_
     simp only [go_sem, qb, qa, reduceCtorEq]
     obtain rfl := Option.some.inj hc3
     refine zb ⟨rfl, _, _, ⟨rfl, rfl⟩, .b hg23⟩
   rw [xK hg23] at hc3
   obtain ⟨y4, hy4, hc3⟩ := bind_some hc3
   have f5 := E130.idxS hy4
   have f6 := E130.fldS0 (f := 21) rfl rfl hy4
   obtain ⟨r7, hr7, hc3⟩ := zW hc3
   refine za tok 3 ?_
   simp only [go_sem, qb, qa, reduceCtorEq, vaz, f5, f6]
   refine zh rfl rfl rfl (xe.ev y4 r7 hr7 _) ?_
   rintro _ _ ⟨rfl, rfl⟩
   refine za tok 2 ?_
   simp only [go_sem, qb, qa, reduceCtorEq]
   obtain rfl := Option.some.inj hc3
   refine zb ⟨rfl, _, _, ⟨rfl, rfl⟩, .b hg23⟩
 rintro _ _ ⟨rfl, rfl⟩
 refine za tok 1 ?_
 simp only [go_sem, qb, qa, reduceCtorEq]
 obtain ⟨c8, hc8, h⟩ := zW h
 refine zn 3 (fun L τ => L = [(3, .ds true (qf (vaz .i32) r1.1) (qc r1.1) false), (33, .bool c8)] ∧ τ = ([] : Store)) ?_ ?_
 · refine zQ (b := c3) 30 rfl (fun hg30 => ?_) (fun hg30 => ?_)
   · rw [if_pos hg30] at hc8
     refine za tok 3 ?_
     simp only [go_sem, qb, qa, reduceCtorEq]
     subst hc8
     refine zb ⟨rfl, _, _, ⟨rfl, rfl⟩, .b hg30⟩
   rw [xK hg30] at hc8
   obtain ⟨r9, hr9, hc8⟩ := zW hc8
   refine za tok 1 ?_
   simp only [go_sem, qb, qa, reduceCtorEq]
   refine zh rfl rfl rfl (yZ.ev a0 r9 hr9 _) ?_
   rintro _ _ ⟨rfl, rfl⟩
   refine za tok 1 ?_
   simp only [go_sem, qb, qa, reduceCtorEq]
   subst hc8
   refine zb ⟨rfl, _, _, ⟨rfl, rfl⟩, .b hg30⟩
 rintro _ _ ⟨rfl, rfl⟩
 refine zb ?_
 simp only [zd, qa, reduceIte, zk, zo]
 apply hK
 refine zt (b := c8) rfl (fun hc10 => ?_) (fun hc10 => ?_)
 · rw [if_pos hc10] at h
   refine rg tok [2] fun K hK => ?_
   simp only [go_sem, qb, qa]
   apply hK
   refine zi ?_
   obtain rfl := Option.some.inj h
   exact yy
 rw [xK hc10] at h
 refine zf ?_
 apply hZ2
 refine ze fun Z11 hZ11 => ?_
 refine rg tok [3, 5] fun K hK => ?_
 simp only [go_sem, qb, qa]
 apply hK
 refine zj ?_
 refine zB (fun m L τ => ∃ (k14 : Nat) (x12 : Int), m = 0 + k14 ∧ L = [(3, .ds true (qf (vaz .i32) r1.1) (qc r1.1) false), (5, .int .i64 x12)] ∧ τ = ([] : Store) ∧ yW.l14 r1 k14 x12 = some r) _ ⟨rounds, 1, rfl, rfl, rfl, h⟩ .s ?_
 rintro m L τ ⟨k14, x12, rfl, rfl, rfl, h⟩
 rcases k14 with _ | k14
 · cases h
 simp only [yW.l14] at h
 refine ze fun Z15 hZ15 => ?_
 refine rg tok [3, 5, 37] fun K hK => ?_
 simp only [go_sem, qb, qa]
 apply hK
 refine zI rfl (fun hc16 => ?_) (fun hc16 => ?_)
 · rw [if_pos hc16] at h
   have t17 := eq_true hc16
   refine zf ?_
   apply hZ15
   refine ze fun Z18 hZ18 => ?_
   refine zj ?_
   refine rc [3, 5, 53] fun K hK => ?_
   obtain ⟨y19, hy19, h⟩ := bind_some h
   have f20 := E130.idxS hy19
   have f21 := E130.fldS0 (f := 21) rfl rfl hy19
   obtain ⟨r22, hr22, h⟩ := zW h
   refine za tok 4 ?_
   simp only [go_sem, qb, qa, vaz, t17, f20, f21]
   refine zh rfl rfl rfl (xe.ev y19 r22 hr22 _) ?_
   rintro _ _ ⟨rfl, rfl⟩
   refine za tok 2 ?_
   simp only [go_sem, qb, qa]
   obtain ⟨c23, hc23, h⟩ := zW h
   refine zn 7 (fun L τ => L = [(3, .ds true (qf (vaz .i32) r1.1) (qc r1.1) false), (5, .int .i64 x12), (53, .bool c23)] ∧ τ = ([] : Store)) ?_ ?_
   · refine zQ (b := (!r22)) 46 rfl (fun hg46 => ?_) (fun hg46 => ?_)
     · rw [if_pos hg46] at hc23
       have f24 := E130.idxS hy19
       have f25 := E130.fldS0 (f := 21) rfl rfl hy19
       obtain ⟨r26, hr26, hc23⟩ := zW hc23
       refine za tok 4 ?_
       simp only [go_sem, qb, qa, vaz, f24, f25]
       refine zh rfl rfl rfl (xR.ev y19 r26 hr26 _) ?_
       rintro _ _ ⟨rfl, rfl⟩
       refine za tok 2 ?_
       simp only [go_sem, qb, qa]
       subst hc23
       refine zb ⟨rfl, _, _, ⟨rfl, rfl⟩, .b hg46⟩
     rw [xK hg46] at hc23
     refine za tok 7 ?_
     simp only [go_sem, qb, qa]
     subst hc23
     refine zb ⟨rfl, _, _, ⟨rfl, rfl⟩, .b hg46⟩
   rintro _ _ ⟨rfl, rfl⟩
   refine zb ?_
   simp only [zd, qa, reduceIte, zk, zo]
   apply hK
   refine zt (b := c23) rfl (fun hc27 => ?_) (fun hc27 => ?_)
   · rw [if_pos hc27] at h
     refine rg tok [2] fun K hK => ?_
     simp only [go_sem, qb, qa]
     apply hK
     refine zi ?_
     obtain rfl := Option.some.inj h
     exact yy
   rw [xK hc27] at h
   refine zf ?_
   apply hZ18
   refine rgE tok [3, 5] fun K hK => ?_
   simp only [go_sem, qb, qa]
   apply hK
   exact ⟨_, _, _, qw (0 + k14), ⟨k14, IntKind.i64.wrap (x12 + 1), rfl, rfl, rfl, h⟩, .s⟩
 rw [if_neg hc16] at h
 have t28 := eq_false hc16
 refine zJ ?_
 apply hZ11
 refine rg tok [2] fun K hK => ?_
 simp only [go_sem, qb, qa, t28]
 apply hK
 refine zi ?_
 obtain rfl := Option.some.inj h
 exact yy
theorem yW.ev (a0 : List UInt8) (r : Bool) (h : yW a0 = some r) (σ : Store) : ACalls qh 45 [.str a0] σ (fun r' σ' => r' = .bool r ∧ σ' = σ) :=
 (yW.ok a0 r h).c σ
def yj.l4 (a0 : List UInt8) : List (List UInt8) → Int → Option Bool
 | [], x2 => (yW a0).bind fun r6 => some r6
 | y4 :: q4, x2 => (if y4 = a0 then some false else ((yj.l4 a0 q4) (x2 + 1)))
def yj (a0 : List UInt8) (a1 : List (List UInt8)) : Option Bool :=
 (yj.l4 a0 a1 0)
theorem yj.ok (a0 : List UInt8) (a1 : List (List UInt8)) (r : Bool) (h : yj a0 a1 = some r) : ACalls qh 47 [.str a0, .ds true (qf encS a1) (qc a1) false] [] (fun r' _ => r' = .bool r) := by
 refine zm (rs := [.tmp 4]) tok Tryz.func47 rfl Tryz.ntmps47 rfl Tryz.call47 (by simp) ?_
 refine zq [(0, .str a0), (1, .ds true (qf encS a1) (qc a1) false)] ⟨rfl, rfl, trivial⟩ ?_
 unfold yj at h
 refine rg tok [0, 1] fun K hK => ?_
 simp only [go_sem, qb, qa, reduceCtorEq]
 apply hK
 refine ze fun Z1 hZ1 => ?_
 refine rg tok [0, 1, 5] fun K hK => ?_
 simp only [go_sem, qb, qa, reduceCtorEq]
 apply hK
 refine zj ?_
 refine xh 1 fun hb4 => ?_
 replace hb4 : qc a1 ≤ 9223372036854775807 := hb4.1
 refine zB (fun m L τ => ∃ (p4 q4 : List (List UInt8)) (x2 : Int), m = qc q4 ∧ L = [(0, .str a0), (1, .ds true (qf encS a1) (qc a1) false), (5, .int .i64 x2)] ∧ τ = ([] : Store) ∧ a1 = p4 ++ q4 ∧ x2 = (qc p4 : Int) ∧ yj.l4 a0 q4 x2 = some r) _ ⟨[], a1, 0, rfl, rfl, rfl, rfl, rfl, h⟩ .s ?_
 rintro m L τ ⟨p4, q4, x2, rfl, rfl, rfl, hE4, hi4, h⟩
 rcases q4 with _ | ⟨y4, q4⟩
 · have hz4 := yC hE4 hi4
   simp only [yj.l4] at h
   refine ze fun Z5 hZ5 => ?_
   refine rg tok [0, 1, 5, 9] fun K hK => ?_
   simp only [go_sem, qb, qa, reduceCtorEq, hz4]
   apply hK
   refine zx rfl ?_
   refine zJ ?_
   apply hZ1
   refine rc [4] fun K hK => ?_
   obtain ⟨r6, hr6, h⟩ := bind_some h
   refine za tok 1 ?_
   simp only [go_sem, qb, reduceCtorEq]
   refine zh rfl rfl rfl (yW.ev a0 r6 hr6 _) ?_
   rintro _ _ ⟨rfl, rfl⟩
   refine za tok 1 ?_
   simp only [go_sem, qb, qa, reduceCtorEq]
   refine zb ?_
   simp only [zd, upd, qa, reduceIte, zk, zo]
   apply hK
   refine zi ?_
   obtain rfl := Option.some.inj h
   exact yy
 obtain ⟨hz4, hw4, hx4, hE'4, hi'4⟩ := ye hE4 hi4 hb4
 simp only [yj.l4] at h
 refine ze fun Z7 hZ7 => ?_
 refine rg tok [0, 1, 5, 9] fun K hK => ?_
 simp only [go_sem, qb, qa, reduceCtorEq, hz4]
 apply hK
 refine zA rfl ?_
 refine zf ?_
 apply hZ7
 refine ze fun Z8 hZ8 => ?_
 refine zj ?_
 have f9 := E98.idxS hx4
 have f10 := E98.fldS0 (f := 9) rfl rfl hx4
 refine rg tok [0, 1, 5, 17] fun K hK => ?_
 simp only [go_sem, qb, qa, reduceCtorEq, encS, f9, f10]
 apply hK
 refine zI rfl (fun hc11 => ?_) (fun hc11 => ?_)
 · rw [if_pos hc11] at h
   have t12 := eq_true hc11
   refine rg tok [4] fun K hK => ?_
   simp only [go_sem, qb, qa, reduceCtorEq, t12]
   apply hK
   refine zi ?_
   obtain rfl := Option.some.inj h
   exact yy
 rw [if_neg hc11] at h
 have t13 := eq_false hc11
 refine zf ?_
 apply hZ8
 refine rgE tok [0, 1, 5] fun K hK => ?_
 simp only [go_sem, qb, qa, reduceCtorEq, hw4, t13]
 apply hK
 exact ⟨_, _, _, qw q4.length, ⟨p4 ++ [y4], q4, x2 + 1, rfl, rfl, rfl, hE'4, hi'4, h⟩, .s⟩
def yl.l4 (a1 : Int) : List Int → Int → Bool
 | [], x2 => false
 | y4 :: q4, x2 => (if y4 = a1 then true else ((yl.l4 a1 q4) (x2 + 1)))
def yl (a0 : GMessage) (a1 : Int) : Bool :=
 (yl.l4 a1 a0.fReserved 0)
theorem yl.ok (a0 : GMessage) (a1 : Int) (r : Bool) (h : yl a0 a1 = r) : ACalls qh 121 [.agg (encGMessage a0), .int .i64 a1] [] (fun r' _ => r' = .bool r) := by
 refine zm (rs := [.tmp 4]) tok Tryz.func121 rfl Tryz.ntmps121 rfl Tryz.call121 (by simp) ?_
 refine zq [(0, .agg (encGMessage a0)), (1, .int .i64 a1)] ⟨rfl, rfl, trivial⟩ ?_
 unfold yl at h
 refine rg tok [1, 2] fun K hK => ?_
 simp only [go_sem, qb, qa, qd, reduceCtorEq, encGMessage]
 apply hK
 refine ze fun Z1 hZ1 => ?_
 refine rg tok [1, 2, 5] fun K hK => ?_
 simp only [go_sem, qb, qa]
 apply hK
 refine zj ?_
 refine xz 0 rfl fun hb4 => ?_
 replace hb4 : qc a0.fReserved ≤ 9223372036854775807 := hb4.2.2.1.1
 refine zB (fun m L τ => ∃ (p4 q4 : List Int) (x2 : Int), m = qc q4 ∧ L = [(1, .int .i64 a1), (2, .op 0 0 0), (5, .int .i64 x2)] ∧ τ = ([.cells 0 (encGMessage a0)] : Store) ∧ a0.fReserved = p4 ++ q4 ∧ x2 = (qc p4 : Int) ∧ yl.l4 a1 q4 x2 = r) _ ⟨[], a0.fReserved, 0, rfl, rfl, rfl, rfl, rfl, h⟩ .s ?_
 rintro m L τ ⟨p4, q4, x2, rfl, rfl, rfl, hE4, hi4, h⟩
 rcases q4 with _ | ⟨y4, q4⟩
 · have hz4 := yC hE4 hi4
   simp only [yl.l4] at h
   refine ze fun Z5 hZ5 => ?_
   refine rg tok [1, 2, 5, 10] fun K hK => ?_
   simp only [go_sem, qb, qa, qd, hz4]
   apply hK
   refine zx rfl ?_
   refine zJ ?_
   apply hZ1
   refine rg tok [4] fun K hK => ?_
   simp only [go_sem, qb, qa]
   apply hK
   refine zi ?_
   obtain rfl := h
   exact yy
 obtain ⟨hz4, hw4, hx4, hE'4, hi'4⟩ := ye hE4 hi4 hb4
 simp only [yl.l4] at h
 refine ze fun Z6 hZ6 => ?_
 refine rg tok [1, 2, 5, 10] fun K hK => ?_
 simp only [go_sem, qb, qa, qd, hz4]
 apply hK
 refine zA rfl ?_
 refine zf ?_
 apply hZ6
 refine ze fun Z7 hZ7 => ?_
 refine zj ?_
 have f8 := E45.idxS hx4
 have f9 := E45.fldS0 (f := 3) rfl rfl hx4
 refine rg tok [1, 2, 5, 19] fun K hK => ?_
 simp only [go_sem, qb, qa, qd, encI, f8, f9]
 apply hK
 refine zI rfl (fun hc10 => ?_) (fun hc10 => ?_)
 · rw [if_pos hc10] at h
   have t11 := eq_true hc10
   refine rg tok [4] fun K hK => ?_
   simp only [go_sem, qb, qa, t11]
   apply hK
   refine zi ?_
   obtain rfl := h
   exact yy
 rw [if_neg hc10] at h
 have t12 := eq_false hc10
 refine zf ?_
 apply hZ7
 refine rgE tok [1, 2, 5] fun K hK => ?_
 simp only [go_sem, qb, qa, hw4, t12]
 apply hK
 exact ⟨_, _, _, qw q4.length, ⟨p4 ++ [y4], q4, x2 + 1, rfl, rfl, rfl, hE'4, hi'4, h⟩, .s⟩
theorem yl.ev (a0 : GMessage) (a1 : Int) (r : Bool) (h : yl a0 a1 = r) (σ : Store) : ACalls qh 121 [.agg (encGMessage a0), .int .i64 a1] σ (fun r' σ' => r' = .bool r ∧ σ' = σ) :=
 (yl.ok a0 a1 r h).c σ
def yJ.l4 (a1 : Int) : List GField → Int → GField × Bool
 | [], x2 => ((⟨[], 0, 0, (⟨0, []⟩ : GType)⟩ : GField), false)
 | y4 :: q4, x2 => (if y4.fTag = a1 then (y4, true) else ((yJ.l4 a1 q4) (x2 + 1)))
def yJ (a0 : GMessage) (a1 : Int) : GField × Bool :=
 (yJ.l4 a1 a0.fFields 0)
theorem yJ.ok (a0 : GMessage) (a1 : Int) (r : GField × Bool) (h : yJ a0 a1 = r) : ACalls qh 73 [.agg (encGMessage a0), .int .i64 a1] [] (fun r' _ => r' = .tup [.agg (encGField r.1), .bool r.2]) := by
 refine zm (rs := [.cell 4 57, .tmp 5]) tok Tryz.func73 rfl Tryz.ntmps73 rfl Tryz.call73 (by simp) ?_
 refine zq [(0, .agg (encGMessage a0)), (1, .int .i64 a1)] ⟨rfl, rfl, trivial⟩ ?_
 unfold yJ at h
 refine rg tok [1, 2, 4] fun K hK => ?_
 simp only [go_sem, qb, qa, qd, reduceCtorEq, encGMessage]
 apply hK
 refine ze fun Z1 hZ1 => ?_
 refine rg tok [1, 2, 4, 6] fun K hK => ?_
 simp only [go_sem, qb, qa]
 apply hK
 refine zj ?_
 refine xz 0 rfl fun hb4 => ?_
 replace hb4 : qc a0.fFields ≤ 9223372036854775807 := hb4.2.1.1
 refine zB (fun m L τ => ∃ (p4 q4 : List GField) (x2 : Int), m = qc q4 ∧ L = [(1, .int .i64 a1), (2, .op 0 0 0), (4, .op 1 0 0), (6, .int .i64 x2)] ∧ τ = ([.cells 0 (encGMessage a0), .cells 0 [.str [], .int .i64 0, .int .i64 0, .int .i64 0, .str []]] : Store) ∧ a0.fFields = p4 ++ q4 ∧ x2 = (qc p4 : Int) ∧ yJ.l4 a1 q4 x2 = r) _ ⟨[], a0.fFields, 0, rfl, rfl, rfl, rfl, rfl, h⟩ .s ?_
 rintro m L τ ⟨p4, q4, x2, rfl, rfl, rfl, hE4, hi4, h⟩
 rcases q4 with _ | ⟨y4, q4⟩
 · have hz4 := yC hE4 hi4
   simp only [yJ.l4] at h
   refine ze fun Z5 hZ5 => ?_
   refine rg tok [1, 2, 4, 6, 11] fun K hK => ?_
   simp only [go_sem, qb, qa, qd, hz4]
   apply hK
   refine zx rfl ?_
   refine zJ ?_
   apply hZ1
   refine rg tok [4, 5] fun K hK => ?_
   simp only [go_sem, qb, qe, qa, qd]
   apply hK
   refine zi ?_
   obtain rfl := h
   exact yy
 obtain ⟨hz4, hw4, hx4, hE'4, hi'4⟩ := ye hE4 hi4 hb4
 simp only [yJ.l4] at h
 refine ze fun Z6 hZ6 => ?_
 refine rg tok [1, 2, 4, 6, 11] fun K hK => ?_
 simp only [go_sem, qb, qa, qd, hz4]
 apply hK
 refine zA rfl ?_
 refine zf ?_
 apply hZ6
 refine ze fun Z7 hZ7 => ?_
 refine zj ?_
 have f8 := E47.idxS hx4
 have f9 := E47.fldS (f := 3) rfl rfl hx4 (o := 1) (by decide)
 refine rg tok [1, 2, 4, 6, 21] fun K hK => ?_
 simp only [go_sem, qb, qa, qd, encGField, f8, f9]
 apply hK
 refine zI rfl (fun hc10 => ?_) (fun hc10 => ?_)
 · rw [if_pos hc10] at h
   have t11 := eq_true hc10
   have f12 := E47.idxS hx4
   have f13 := E47.loadS rfl rfl hx4
   refine rg tok [4, 5] fun K hK => ?_
   simp only [go_sem, qb, qe, qa, qd, encGField, t11, f12, f13]
   apply hK
   refine zi ?_
   obtain rfl := h
   exact yy
 rw [if_neg hc10] at h
 have t14 := eq_false hc10
 refine zf ?_
 apply hZ7
 refine rgE tok [1, 2, 4, 6] fun K hK => ?_
 simp only [go_sem, qb, qa, hw4, t14]
 apply hK
 exact ⟨_, _, _, qw q4.length, ⟨p4 ++ [y4], q4, x2 + 1, rfl, rfl, rfl, hE'4, hi'4, h⟩, .s⟩
theorem yJ.ev (a0 : GMessage) (a1 : Int) (r : GField × Bool) (h : yJ a0 a1 = r) (σ : Store) : ACalls qh 73 [.agg (encGMessage a0), .int .i64 a1] σ (fun r' σ' => r' = .tup [.agg (encGField r.1), .bool r.2] ∧ σ' = σ) :=
 (yJ.ok a0 a1 r h).c σ
def xy.l4 (a1 : List UInt8) : List GEnumeration → Int → GEnumeration × Bool
 | [], x2 => ((⟨[], ([] : List GNamed)⟩ : GEnumeration), false)
 | y4 :: q4, x2 => (if y4.fName = a1 then (y4, true) else ((xy.l4 a1 q4) (x2 + 1)))
def xy (a0 : GSchema) (a1 : List UInt8) : GEnumeration × Bool :=
 (xy.l4 a1 a0.fEnums 0)
theorem xy.ok (a0 : GSchema) (a1 : List UInt8) (r : GEnumeration × Bool) (h : xy a0 a1 = r) : ACalls qh 147 [.agg (encGSchema a0), .str a1] [] (fun r' _ => r' = .tup [.agg (encGEnumeration r.1), .bool r.2]) := by
 refine zm (rs := [.cell 4 84, .tmp 5]) tok Tryz.func147 rfl Tryz.ntmps147 rfl Tryz.call147 (by simp) ?_
 refine zq [(0, .agg (encGSchema a0)), (1, .str a1)] ⟨rfl, rfl, trivial⟩ ?_
 unfold xy at h
 refine rg tok [1, 2, 4] fun K hK => ?_
 simp only [go_sem, qb, qa, qd, reduceCtorEq, encGSchema]
 apply hK
 refine ze fun Z1 hZ1 => ?_
 refine rg tok [1, 2, 4, 6] fun K hK => ?_
 simp only [go_sem, qb, qa]
 apply hK
 refine zj ?_
 refine xz 0 rfl fun hb4 => ?_
 replace hb4 : qc a0.fEnums ≤ 9223372036854775807 := hb4.2.2.1.1
 refine zB (fun m L τ => ∃ (p4 q4 : List GEnumeration) (x2 : Int), m = qc q4 ∧ L = [(1, .str a1), (2, .op 0 0 0), (4, .op 1 0 0), (6, .int .i64 x2)] ∧ τ = ([.cells 0 (encGSchema a0), .cells 0 [.str [], .ds true [] 0 true]] : Store) ∧ a0.fEnums = p4 ++ q4 ∧ x2 = (qc p4 : Int) ∧ xy.l4 a1 q4 x2 = r) _ ⟨[], a0.fEnums, 0, rfl, rfl, rfl, rfl, rfl, h⟩ .s ?_
 rintro m L τ ⟨p4, q4, x2, rfl, rfl, rfl, hE4, hi4, h⟩
 rcases q4 with _ | ⟨y4, q4⟩
 · have hz4 := yC hE4 hi4
   simp only [xy.l4] at h
   refine ze fun Z5 hZ5 => ?_
   refine rg tok [1, 2, 4, 6, 11] fun K hK => ?_
   simp only [go_sem, qb, qa, qd, hz4]
   apply hK
   refine zx rfl ?_
   refine zJ ?_
   apply hZ1
   refine rg tok [4, 5] fun K hK => ?_
   simp only [go_sem, qb, qe, qa, qd]
   apply hK
   refine zi ?_
   obtain rfl := h
   exact yy
 obtain ⟨hz4, hw4, hx4, hE'4, hi'4⟩ := ye hE4 hi4 hb4
 simp only [xy.l4] at h
 refine ze fun Z6 hZ6 => ?_
 refine rg tok [1, 2, 4, 6, 11] fun K hK => ?_
 simp only [go_sem, qb, qa, qd, hz4]
 apply hK
 refine zA rfl ?_
 refine zf ?_
 apply hZ6
 refine ze fun Z7 hZ7 => ?_
 refine zj ?_
 have f8 := E23.idxS hx4
 have f9 := E23.fldS0 (f := 9) rfl rfl hx4
 refine rg tok [1, 2, 4, 6, 21] fun K hK => ?_
 simp only [go_sem, qb, qa, qd, encGEnumeration, f8, f9]
 apply hK
 refine zI rfl (fun hc10 => ?_) (fun hc10 => ?_)
 · rw [if_pos hc10] at h
   have t11 := eq_true hc10
   have f12 := E23.idxS hx4
   have f13 := E23.loadS rfl rfl hx4
   refine rg tok [4, 5] fun K hK => ?_
   simp only [go_sem, qb, qe, qa, qd, encGEnumeration, t11, f12, f13]
   apply hK
   refine zi ?_
   obtain rfl := h
   exact yy
 rw [if_neg hc10] at h
 have t14 := eq_false hc10
 refine zf ?_
 apply hZ7
 refine rgE tok [1, 2, 4, 6] fun K hK => ?_
 simp only [go_sem, qb, qa, hw4, t14]
 apply hK
 exact ⟨_, _, _, qw q4.length, ⟨p4 ++ [y4], q4, x2 + 1, rfl, rfl, rfl, hE'4, hi'4, h⟩, .s⟩
theorem xy.ev (a0 : GSchema) (a1 : List UInt8) (r : GEnumeration × Bool) (h : xy a0 a1 = r) (σ : Store) : ACalls qh 147 [.agg (encGSchema a0), .str a1] σ (fun r' σ' => r' = .tup [.agg (encGEnumeration r.1), .bool r.2] ∧ σ' = σ) :=
 (xy.ok a0 a1 r h).c σ
def yc.l4 (a1 : List UInt8) : List GMessage → Int → GMessage × Bool
 | [], x2 => ((⟨[], ([] : List GField), ([] : List Int)⟩ : GMessage), false)
 | y4 :: q4, x2 => (if y4.fName = a1 then (y4, true) else ((yc.l4 a1 q4) (x2 + 1)))
def yc (a0 : GSchema) (a1 : List UInt8) : GMessage × Bool :=
 (yc.l4 a1 a0.fMessages 0)
theorem yc.ok (a0 : GSchema) (a1 : List UInt8) (r : GMessage × Bool) (h : yc a0 a1 = r) : ACalls qh 43 [.agg (encGSchema a0), .str a1] [] (fun r' _ => r' = .tup [.agg (encGMessage r.1), .bool r.2]) := by
 refine zm (rs := [.cell 4 49, .tmp 5]) tok Tryz.func43 rfl Tryz.ntmps43 rfl Tryz.call43 (by simp) ?_
 refine zq [(0, .agg (encGSchema a0)), (1, .str a1)] ⟨rfl, rfl, trivial⟩ ?_
 unfold yc at h
 refine rg tok [1, 2, 4] fun K hK => ?_
 simp only [go_sem, qb, qa, qd, reduceCtorEq, encGSchema]
 apply hK
 refine ze fun Z1 hZ1 => ?_
 refine rg tok [1, 2, 4, 6] fun K hK => ?_
 simp only [go_sem, qb, qa]
 apply hK
 refine zj ?_
 refine xz 0 rfl fun hb4 => ?_
 replace hb4 : qc a0.fMessages ≤ 9223372036854775807 := hb4.2.1.1
 refine zB (fun m L τ => ∃ (p4 q4 : List GMessage) (x2 : Int), m = qc q4 ∧ L = [(1, .str a1), (2, .op 0 0 0), (4, .op 1 0 0), (6, .int .i64 x2)] ∧ τ = ([.cells 0 (encGSchema a0), .cells 0 [.str [], .ds true [] 0 true, .ds true [] 0 true]] : Store) ∧ a0.fMessages = p4 ++ q4 ∧ x2 = (qc p4 : Int) ∧ yc.l4 a1 q4 x2 = r) _ ⟨[], a0.fMessages, 0, rfl, rfl, rfl, rfl, rfl, h⟩ .s ?_
 rintro m L τ ⟨p4, q4, x2, rfl, rfl, rfl, hE4, hi4, h⟩
 rcases q4 with _ | ⟨y4, q4⟩
 · have hz4 := yC hE4 hi4
   simp only [yc.l4] at h
   refine ze fun Z5 hZ5 => ?_
   refine rg tok [1, 2, 4, 6, 11] fun K hK => ?_
   simp only [go_sem, qb, qa, qd, hz4]
   apply hK
   refine zx rfl ?_
   refine zJ ?_
   apply hZ1
   refine rg tok [4, 5] fun K hK => ?_
   simp only [go_sem, qb, qe, qa, qd]
   apply hK
   refine zi ?_
   obtain rfl := h
   exact yy
 obtain ⟨hz4, hw4, hx4, hE'4, hi'4⟩ := ye hE4 hi4 hb4
 simp only [yc.l4] at h
 refine ze fun Z6 hZ6 => ?_
 refine rg tok [1, 2, 4, 6, 11] fun K hK => ?_
 simp only [go_sem, qb, qa, qd, hz4]
 apply hK
 refine zA rfl ?_
 refine zf ?_
 apply hZ6
 refine ze fun Z7 hZ7 => ?_
 refine zj ?_
 have f8 := E22.idxS hx4
 have f9 := E22.fldS0 (f := 9) rfl rfl hx4
 refine rg tok [1, 2, 4, 6, 21] fun K hK => ?_
 simp only [go_sem, qb, qa, qd, encGMessage, f8, f9]
 apply hK
 refine zI rfl (fun hc10 => ?_) (fun hc10 => ?_)
 · rw [if_pos hc10] at h
   have t11 := eq_true hc10
   have f12 := E22.idxS hx4
   have f13 := E22.loadS rfl rfl hx4
   refine rg tok [4, 5] fun K hK => ?_
   simp only [go_sem, qb, qe, qa, qd, encGMessage, t11, f12, f13]
   apply hK
   refine zi ?_
   obtain rfl := h
   exact yy
 rw [if_neg hc10] at h
 have t14 := eq_false hc10
 refine zf ?_
 apply hZ7
 refine rgE tok [1, 2, 4, 6] fun K hK => ?_
 simp only [go_sem, qb, qa, hw4, t14]
 apply hK
 exact ⟨_, _, _, qw q4.length, ⟨p4 ++ [y4], q4, x2 + 1, rfl, rfl, rfl, hE'4, hi'4, h⟩, .s⟩
theorem yc.ev (a0 : GSchema) (a1 : List UInt8) (r : GMessage × Bool) (h : yc a0 a1 = r) (σ : Store) : ACalls qh 43 [.agg (encGSchema a0), .str a1] σ (fun r' σ' => r' = .tup [.agg (encGMessage r.1), .bool r.2] ∧ σ' = σ) :=
 (yc.ok a0 a1 r h).c σ
def yO.j3 (a0 : GSchema) (a1 : GType) (x2 : Bool) : Bool :=
 (if x2 = true then decide (a1.fName = []) else (if a1.fKind = 6 then bnd (xy a0 a1.fName) fun r7 => r7.2 else (if a1.fKind = 7 then bnd (yc a0 a1.fName) fun r11 => r11.2 else false)))
def yO (a0 : GSchema) (a1 : GType) : Bool :=
 (if a1.fKind = 1 then (yO.j3 a0 a1 (decide (a1.fKind = 1))) else (if a1.fKind = 2 then (yO.j3 a0 a1 (decide (a1.fKind = 2))) else (if a1.fKind = 3 then (yO.j3 a0 a1 (decide (a1.fKind = 3))) else (if a1.fKind = 4 then (yO.j3 a0 a1 (decide (a1.fKind = 4))) else (yO.j3 a0 a1 (decide (a1.fKind = 5)))))))
theorem yO.ok (a0 : GSchema) (a1 : GType) (r : Bool) (h : yO a0 a1 = r) : ACalls qh 122 [.agg (encGSchema a0), .agg (encGType a1)] [] (fun r' _ => r' = .bool r) := by
 refine zm (rs := [.tmp 4]) tok Tryz.func122 rfl Tryz.ntmps122 rfl Tryz.call122 (by simp) ?_
 refine zq [(0, .agg (encGSchema a0)), (1, .agg (encGType a1))] ⟨rfl, rfl, trivial⟩ ?_
 unfold yO at h
 refine rg tok [2, 3] fun K hK => ?_
 simp only [go_sem, qb, qa, qd, reduceCtorEq, encGSchema, encGType]
 apply hK
 refine ze fun Z1 hZ1 => ?_
 refine rg tok [2, 3, 10] fun K hK => ?_
 simp only [go_sem, qb, qa, qd]
 apply hK
 refine zj ?_
 refine xN (fun L τ => ∃ (x2 : Bool), L = [(2, .op 0 0 0), (3, .op 1 0 0), (10, .int .i64 a1.fKind), (11, .bool x2)] ∧ τ = ([.cells 0 (encGSchema a0), .cells 0 [.int .i64 a1.fKind, .str a1.fName]] : Store) ∧ yO.j3 a0 a1 x2 = r) ?_ ?_
 · refine rg tok [2, 3, 10, 11] fun K hK => ?_
   simp only [go_sem, qb, qa]
   apply hK
   refine zI rfl (fun hc13 => ?_) (fun hc13 => ?_)
   · rw [if_pos hc13] at h
     have t14 := eq_true hc13
     refine zf ?_
     exact ⟨_, _, ⟨decide (a1.fKind = 1), rfl, rfl, h⟩, .s⟩
   rw [if_neg hc13] at h
   have t15 := eq_false hc13
   refine rg tok [2, 3, 10, 11] fun K hK => ?_
   simp only [go_sem, qb, qa, t15]
   apply hK
   refine zI rfl (fun hc16 => ?_) (fun hc16 => ?_)
   · rw [if_pos hc16] at h
     have t17 := eq_true hc16
     refine zf ?_
     exact ⟨_, _, ⟨decide (a1.fKind = 2), rfl, rfl, h⟩, .s⟩
   rw [if_neg hc16] at h
   have t18 := eq_false hc16
   refine rg tok [2, 3, 10, 11] fun K hK => ?_
   simp only [go_sem, qb, qa, t18]
   apply hK
   refine zI rfl (fun hc19 => ?_) (fun hc19 => ?_)
   · rw [if_pos hc19] at h
     have t20 := eq_true hc19
     refine zf ?_
     exact ⟨_, _, ⟨decide (a1.fKind = 3), rfl, rfl, h⟩, .s⟩
   rw [if_neg hc19] at h
   have t21 := eq_false hc19
   refine rg tok [2, 3, 10, 11] fun K hK => ?_
   simp only [go_sem, qb, qa, t21]
   apply hK
   refine zI rfl (fun hc22 => ?_) (fun hc22 => ?_)
   · rw [if_pos hc22] at h
     have t23 := eq_true hc22
     refine zf ?_
     exact ⟨_, _, ⟨decide (a1.fKind = 4), rfl, rfl, h⟩, .s⟩
   rw [if_neg hc22] at h
   have t24 := eq_false hc22
   refine rgE tok [2, 3, 10, 11] fun K hK => ?_
   simp only [go_sem, qb, qa, t24]
   apply hK
   exact ⟨_, _, ⟨decide (a1.fKind = 5), rfl, rfl, h⟩, .s⟩
 rintro _ _ ⟨x2, rfl, rfl, h⟩
 unfold yO.j3 at h
 refine zt (b := x2) rfl (fun hc4 => ?_) (fun hc4 => ?_)
 · rw [if_pos hc4] at h
   refine rg tok [4] fun K hK => ?_
   simp only [go_sem, qb, qa, qd]
   apply hK
   refine zi ?_
   obtain rfl := h
   exact yy
 rw [xK hc4] at h
 refine rg tok [2, 3, 10, 20] fun K hK => ?_
 simp only [go_sem, qb, qa]
 apply hK
 refine zI rfl (fun hc5 => ?_) (fun hc5 => ?_)
 · rw [if_pos hc5] at h
   have t6 := eq_true hc5
   refine rc [6] fun K hK => ?_
   obtain ⟨r7, hr7, h⟩ := zW h
   refine za tok 3 ?_
   simp only [go_sem, qb, qe, qa, qd, t6]
   refine zh rfl rfl rfl (xy.ev a0 a1.fName r7 hr7 _) ?_
   rintro _ _ ⟨rfl, rfl⟩
   refine za tok 6 ?_
   simp only [go_sem, qb, qe, qa, qd, encGEnumeration]
   refine zb ?_
   simp only [zd, upd, qa, reduceIte, zk, zo]
   apply hK
   refine rg tok [4] fun K hK => ?_
   simp only [go_sem, qb, qa]
   apply hK
   refine zi ?_
   obtain rfl := h
   exact yy
 rw [if_neg hc5] at h
 have t8 := eq_false hc5
 refine rg tok [2, 3, 30] fun K hK => ?_
 simp only [go_sem, qb, qa, t8]
 apply hK
 refine zI rfl (fun hc9 => ?_) (fun hc9 => ?_)
 · rw [if_pos hc9] at h
   have t10 := eq_true hc9
   refine rc [8] fun K hK => ?_
   obtain ⟨r11, hr11, h⟩ := zW h
   refine za tok 3 ?_
   simp only [go_sem, qb, qe, qa, qd, t10]
   refine zh rfl rfl rfl (yc.ev a0 a1.fName r11 hr11 _) ?_
   rintro _ _ ⟨rfl, rfl⟩
   refine za tok 6 ?_
   simp only [go_sem, qb, qe, qa, qd, encGMessage]
   refine zb ?_
   simp only [zd, upd, qa, reduceIte, zk, zo]
   apply hK
   refine rg tok [4] fun K hK => ?_
   simp only [go_sem, qb, qa]
   apply hK
   refine zi ?_
   obtain rfl := h
   exact yy
 rw [if_neg hc9] at h
 have t12 := eq_false hc9
 refine zf ?_
 apply hZ1
 refine rg tok [4] fun K hK => ?_
 simp only [go_sem, qb, qa, t12]
 apply hK
 refine zi ?_
 obtain rfl := h
 exact yy
theorem yO.ev (a0 : GSchema) (a1 : GType) (r : Bool) (h : yO a0 a1 = r) (σ : Store) : ACalls qh 122 [.agg (encGSchema a0), .agg (encGType a1)] σ (fun r' σ' => r' = .bool r ∧ σ' = σ) :=
 (yO.ok a0 a1 r h).c σ
def zG.l17 (a0 : GSchema) (a1 : GMessage) : List GField → Int → List (List UInt8) → Option Int
 | [], x13, l11 => some 0
 | y17 :: q17, x13, l11 => (yj y17.fName l11).bind fun r24 => (if (!r24) = true then some 6 else (Yi (qc l11 + 1) 16).bind fun _u26 => (grd ((0 : Int) ≤ 0 ∧ 0 ≤ x13 ∧ x13 ≤ (qc a1.fFields : Int))).bind fun _u29 => bnd (yJ (⟨[], Yt a1.fFields 0 x13, ([] : List Int)⟩ : GMessage) y17.fTag) fun r31 => bnd (if ((r31.2 || (decide (y17.fTag < 1))) || (decide (500 < y17.fTag))) = true then true else bnd (yl a1 y17.fTag) fun r32 => r32) fun c32 => (if c32 = true then some 7 else bnd (if ((decide (y17.fLabel < 1)) || (decide (3 < y17.fLabel))) = true then true else bnd (yO a0 y17.fType) fun r37 => !r37) fun c37 => (if c37 = true then some 8 else ((zG.l17 a0 a1 q17) (x13 + 1) (l11 ++ [y17.fName])))))
def zG.j43 (x6 : Int) (rec8 : Int → Option Int) (x42 : Bool) : Option Int :=
 (if x42 = true then some 7 else (rec8 (x6 + 1)))
def zG.l8 (a0 : GSchema) (a1 : GMessage) : List Int → Int → Option Int
 | [], x6 => (zG.l17 a0 a1 a1.fFields 0 ([] : List (List UInt8)))
 | y8 :: q8, x6 => (if y8 < 1 then (zG.j43 x6 (zG.l8 a0 a1 q8) true) else (if 500 < y8 then (zG.j43 x6 (zG.l8 a0 a1 q8) true) else (grd ((0 : Int) ≤ 0 ∧ 0 ≤ x6 ∧ x6 ≤ (qc a1.fReserved : Int))).bind fun _u53 => bnd (yl (⟨[], ([] : List GField), Yt a1.fReserved 0 x6⟩ : GMessage) y8) fun r57 => (zG.j43 x6 (zG.l8 a0 a1 q8) r57)))
def zG (a0 : GSchema) (a1 : GMessage) : Option Int :=
 (if ((decide (16 < (qc a1.fFields : Int))) || (decide (32 < (qc a1.fReserved : Int)))) = true then some 4 else (zG.l8 a0 a1 a1.fReserved 0))
theorem zG.ok (a0 : GSchema) (a1 : GMessage) (r : Int) (h : zG a0 a1 = some r) : ACalls qh 82 [.agg (encGSchema a0), .agg (encGMessage a1)] [] (fun r' _ => r' = .int .i64 r) := by
 refine zm (rs := [.tmp 4]) tok Tryz.func82 rfl Tryz.ntmps82 rfl Tryz.call82 (by simp) ?_
 refine zq [(0, .agg (encGSchema a0)), (1, .agg (encGMessage a1))] ⟨rfl, rfl, trivial⟩ ?_
 unfold zG at h
 refine rg tok [2, 3] fun K hK => ?_
 simp only [go_sem, qb, qa, qd, reduceCtorEq, encGMessage, encGSchema]
 apply hK
 refine ze fun Z1 hZ1 => ?_
 refine rc [2, 3, 20] fun K hK => ?_
 refine za tok 5 ?_
 simp only [go_sem, qb, qa, qd]
 refine zn 5 (fun L τ => L = [(2, .op 0 0 0), (3, .op 1 0 0), (20, .bool ((decide (16 < (qc a1.fFields : Int))) || (decide (32 < (qc a1.fReserved : Int)))))] ∧ τ = ([.cells 0 (encGSchema a0), .cells 0 (encGMessage a1)] : Store)) ?_ ?_
 · refine yH 15 rfl (fun hg15 => ?_) (fun hg15 => ?_)
   · have t2 := eq_true hg15
     refine za tok 5 ?_
     simp only [go_sem, qb, qa]
     refine zb ⟨rfl, _, _, ⟨rfl, rfl⟩, .p t2⟩
   have t3 := eq_false hg15
   refine za tok 5 ?_
   simp only [go_sem, qb, qa, qd]
   refine zb ⟨rfl, _, _, ⟨rfl, rfl⟩, .p t3⟩
 rintro _ _ ⟨rfl, rfl⟩
 refine zb ?_
 simp only [zd, qa, reduceIte, zk, zo]
 apply hK
 refine zt (b := ((decide (16 < (qc a1.fFields : Int))) || (decide (32 < (qc a1.fReserved : Int))))) rfl (fun hc4 => ?_) (fun hc4 => ?_)
 · rw [if_pos hc4] at h
   refine rg tok [4] fun K hK => ?_
   simp only [go_sem, qb, qa]
   apply hK
   refine zi ?_
   obtain rfl := Option.some.inj h
   exact yy
 rw [xK hc4] at h
 refine zf ?_
 apply hZ1
 refine ze fun Z5 hZ5 => ?_
 refine rg tok [2, 3, 5] fun K hK => ?_
 simp only [go_sem, qb, qa]
 apply hK
 refine zj ?_
 refine xz 1 rfl fun hb8 => ?_
 replace hb8 : qc a1.fReserved ≤ 9223372036854775807 := hb8.2.2.1.1
 refine zB (fun m L τ => ∃ (p8 q8 : List Int) (x6 : Int), m = qc q8 ∧ L = [(2, .op 0 0 0), (3, .op 1 0 0), (5, .int .i64 x6)] ∧ τ = ([.cells 0 (encGSchema a0), .cells 0 (encGMessage a1)] : Store) ∧ a1.fReserved = p8 ++ q8 ∧ x6 = (qc p8 : Int) ∧ zG.l8 a0 a1 q8 x6 = some r) _ ⟨[], a1.fReserved, 0, rfl, rfl, rfl, rfl, rfl, h⟩ .s ?_
 rintro m L τ ⟨p8, q8, x6, rfl, rfl, rfl, hE8, hi8, h⟩
 rcases q8 with _ | ⟨y8, q8⟩
 · have hz8 := yC hE8 hi8
   simp only [zG.l8] at h
   refine ze fun Z9 hZ9 => ?_
   refine rg tok [2, 3, 5, 25] fun K hK => ?_
   simp only [go_sem, qb, qa, qd, hz8]
   apply hK
   refine zx rfl ?_
   refine zJ ?_
   apply hZ5
   refine rg tok [2, 3, 6] fun K hK => ?_
   simp only [go_sem, qb, qa]
   apply hK
   refine Zx 6 1 rfl ?_
   refine yg (L := [(2, .op 0 0 0), (3, .op 1 0 0), (6, .os true 1 2 0 0 (qc ([] : List (List UInt8))) false)]) (τ := [.cells 0 (encGSchema a0), .cells 0 (encGMessage a1), .cells 0 (qf encS ([] : List (List UInt8)))]) .s ?_
   refine ze fun Z10 hZ10 => ?_
   refine rg tok [2, 3, 6, 7] fun K hK => ?_
   simp only [go_sem, qb, qa]
   apply hK
   refine zj ?_
   refine xz 1 rfl fun hb17 => ?_
   replace hb17 : qc a1.fFields ≤ 9223372036854775807 := hb17.2.1.1
   refine zB (fun m L τ => ∃ (p17 q17 : List GField) (x13 : Int) (l11 : List (List UInt8)) (v12 : Nat), m = qc q17 ∧ L = [(2, .op 0 0 0), (3, .op 1 0 0), (6, .os true 1 2 v12 0 (qc l11) false), (7, .int .i64 x13)] ∧ τ = ([.cells 0 (encGSchema a0), .cells 0 (encGMessage a1), .cells v12 (qf encS l11)] : Store) ∧ a1.fFields = p17 ++ q17 ∧ x13 = (qc p17 : Int) ∧ zG.l17 a0 a1 q17 x13 l11 = some r) _ ⟨[], a1.fFields, 0, ([] : List (List UInt8)), 0, rfl, rfl, rfl, rfl, rfl, h⟩ .s ?_
   rintro m L τ ⟨p17, q17, x13, l11, v12, rfl, rfl, rfl, hE17, hi17, h⟩
   rcases q17 with _ | ⟨y17, q17⟩
   · have hz17 := yC hE17 hi17
     simp only [zG.l17] at h
     refine ze fun Z18 hZ18 => ?_
     refine rg tok [2, 3, 6, 7, 59] fun K hK => ?_
     simp only [go_sem, qb, qa, qd, hz17]
     apply hK
     refine zx rfl ?_
     refine zJ ?_
     apply hZ10
     refine rg tok [4] fun K hK => ?_
     simp only [go_sem, qb, qa]
     apply hK
     refine zi ?_
     obtain rfl := Option.some.inj h
     exact yy
   obtain ⟨hz17, hw17, hx17, hE'17, hi'17⟩ := ye hE17 hi17 hb17
   simp only [zG.l17] at h
   refine ze fun Z19 hZ19 => ?_
   refine rg tok [2, 3, 6, 7, 59] fun K hK => ?_
   simp only [go_sem, qb, qa, qd, hz17]
   apply hK
   refine zA rfl ?_
   refine zf ?_
   apply hZ19
   refine ze fun Z20 hZ20 => ?_
   refine zj ?_
   have f21 := E47.idxS hx17
   have f22 := E47.loadS rfl rfl hx17
   refine rg tok [2, 3, 6, 7, 8] fun K hK => ?_
   simp only [go_sem, qb, qe, qa, qd, encGField, f21, f22]
   apply hK
   refine ze fun Z23 hZ23 => ?_
   refine rc [2, 3, 6, 7, 8, 71] fun K hK => ?_
   obtain ⟨r24, hr24, h⟩ := bind_some h
   refine za tok 3 ?_
   simp only [go_sem, qb, qa, qd]
   refine zh rfl rfl rfl (yj.ok y17.fName l11 r24 hr24).ld ?_
   rintro _ _ ⟨rfl, rfl⟩
   refine za tok 1 ?_
   simp only [go_sem, qb, qa]
   refine zb ?_
   simp only [zd, upd, qa, reduceIte, zk, zo]
   apply hK
   refine zt (b := (!r24)) rfl (fun hc25 => ?_) (fun hc25 => ?_)
   · rw [if_pos hc25] at h
     refine rg tok [4] fun K hK => ?_
     simp only [go_sem, qb, qa]
     apply hK
     refine zi ?_
     obtain rfl := Option.some.inj h
     exact yy
   rw [xK hc25] at h
   refine zf ?_
   apply hZ23
   obtain ⟨_u26, hu26, h⟩ := bind_some h
   have gu26 := yq hu26
   have f27 := (zE E98.len l11)
   refine rg tok [2, 3, 6, 7, 8] fun K hK => ?_
   simp only [go_sem, qb, qe, qa, qd, qs, zO, z7, q7, qX, true_and, uf, yh, zU, yk, gu26, f27, yG, ud, q5, AV.one, qU, qB, qk, ql, qn, qH]
   apply hK
   refine yg (L := [(2, .op 0 0 0), (3, .op 1 0 0), (6, .os true 1 2 (v12 + 1) 0 (qc (l11 ++ [y17.fName])) false), (7, .int .i64 x13), (8, .op 3 0 0)]) (τ := [.cells 0 (encGSchema a0), .cells 0 (encGMessage a1), .cells (v12 + 1) (qf encS (l11 ++ [y17.fName])), .cells 0 (encGField y17), .cells 0 [.str y17.fName]]) .s ?_
   refine ze fun Z28 hZ28 => ?_
   obtain ⟨_u29, hu29, h⟩ := bind_some h
   have gu29 := wE hu29
   have f30 := E47.sl_hi gu29
   obtain ⟨r31, hr31, h⟩ := zW h
   refine rd [2, 3, 6, 7, 8, 10] fun K hK => ?_
   refine DW.start (T := tab) [.any, .at [], .any, .any, .any, .any, .at [], .eff, .any, .any, .any, .flt, .eff, .any] [] ?_
   refine DW.runN tok 7 ?_
   simp only [go_sem, qb, qe, qa, qd, f30]
   refine DW.call rfl rfl rfl (ACalls.loose (yJ.ev (⟨[], Yt a1.fFields 0 x13, ([] : List Int)⟩ : GMessage) y17.fTag r31 hr31 _)) ?_
   refine DW.runN tok 6 ?_
   simp only [go_sem, qb, qe, qa, qd, encGField]
   refine DW.fin tok (by decide +kernel) rfl ?_
   simp only [zd, upd, qa, reduceIte, zk, zo]
   apply hK
   refine rc [2, 3, 6, 7, 8, 104] fun K hK => ?_
   refine za tok 2 ?_
   simp only [go_sem, qb, qa]
   refine zn 4 (fun L τ => L = [(2, .op 0 0 0), (3, .op 1 0 0), (6, .os true 1 2 (v12 + 1) 0 (qc (l11 ++ [y17.fName])) false), (7, .int .i64 x13), (8, .op 3 0 0), (93, .bool (r31.2 || (decide (y17.fTag < 1))))] ∧ τ = ([.cells 0 (encGSchema a0), .cells 0 (encGMessage a1), .cells (v12 + 1) (qf encS (l11 ++ [y17.fName])), .cells 0 (encGField y17), .cells 0 [.str y17.fName], .cells 0 (encGField r31.1)] : Store)) ?_ ?_
   · refine zQ (b := r31.2) 89 rfl (fun hg89 => ?_) (fun hg89 => ?_)
     · refine za tok 4 ?_
       simp only [go_sem, qb, qa]
       refine zb ⟨rfl, _, _, ⟨rfl, rfl⟩, .b hg89⟩
     refine za tok 4 ?_
     simp only [go_sem, qb, qa, qd]
     refine zb ⟨rfl, _, _, ⟨rfl, rfl⟩, .b hg89⟩
   rintro _ _ ⟨rfl, rfl⟩
   refine za tok 1 ?_
   simp only [go_sem, qb, qa]
   refine zn 4 (fun L τ => L = [(2, .op 0 0 0), (3, .op 1 0 0), (6, .os true 1 2 (v12 + 1) 0 (qc (l11 ++ [y17.fName])) false), (7, .int .i64 x13), (8, .op 3 0 0), (98, .bool ((r31.2 || (decide (y17.fTag < 1))) || (decide (500 < y17.fTag))))] ∧ τ = ([.cells 0 (encGSchema a0), .cells 0 (encGMessage a1), .cells (v12 + 1) (qf encS (l11 ++ [y17.fName])), .cells 0 (encGField y17), .cells 0 [.str y17.fName], .cells 0 (encGField r31.1)] : Store)) ?_ ?_
   · refine zQ (b := (r31.2 || (decide (y17.fTag < 1)))) 94 rfl (fun hg94 => ?_) (fun hg94 => ?_)
     · refine za tok 4 ?_
       simp only [go_sem, qb, qa]
       refine zb ⟨rfl, _, _, ⟨rfl, rfl⟩, .b hg94⟩
     refine za tok 4 ?_
     simp only [go_sem, qb, qa, qd]
     refine zb ⟨rfl, _, _, ⟨rfl, rfl⟩, .b hg94⟩
   rintro _ _ ⟨rfl, rfl⟩
   refine za tok 1 ?_
   simp only [go_sem, qb, qa]
   obtain ⟨c32, hc32, h⟩ := zW h
   refine zn 5 (fun L τ => L = [(2, .op 0 0 0), (3, .op 1 0 0), (6, .os true 1 2 (v12 + 1) 0 (qc (l11 ++ [y17.fName])) false), (7, .int .i64 x13), (8, .op 3 0 0), (104, .bool c32)] ∧ τ = ([.cells 0 (encGSchema a0), .cells 0 (encGMessage a1), .cells (v12 + 1) (qf encS (l11 ++ [y17.fName])), .cells 0 (encGField y17), .cells 0 [.str y17.fName], .cells 0 (encGField r31.1)] : Store)) ?_ ?_
   · refine zQ (b := ((r31.2 || (decide (y17.fTag < 1))) || (decide (500 < y17.fTag)))) 99 rfl (fun hg99 => ?_) (fun hg99 => ?_)
     · rw [if_pos hg99] at hc32
       refine za tok 5 ?_
       simp only [go_sem, qb, qa]
       subst hc32
       refine zb ⟨rfl, _, _, ⟨rfl, rfl⟩, .b hg99⟩
     rw [xK hg99] at hc32
     obtain ⟨r33, hr33, hc32⟩ := zW hc32
     refine za tok 3 ?_
     simp only [go_sem, qb, qe, qa, qd]
     refine zh rfl rfl rfl (yl.ev a1 y17.fTag r33 hr33 _) ?_
     rintro _ _ ⟨rfl, rfl⟩
     refine za tok 1 ?_
     simp only [go_sem, qb, qa]
     subst hc32
     refine zb ⟨rfl, _, _, ⟨rfl, rfl⟩, .b hg99⟩
   rintro _ _ ⟨rfl, rfl⟩
   refine zb ?_
   simp only [zd, qa, reduceIte, zk, zo]
   apply hK
   refine zt (b := c32) rfl (fun hc34 => ?_) (fun hc34 => ?_)
   · rw [if_pos hc34] at h
     refine rg tok [4] fun K hK => ?_
     simp only [go_sem, qb, qa]
     apply hK
     refine zi ?_
     obtain rfl := Option.some.inj h
     exact yy
   rw [xK hc34] at h
   refine zf ?_
   apply hZ28
   refine rc [2, 3, 6, 7, 119] fun K hK => ?_
   refine za tok 4 ?_
   simp only [go_sem, qb, qa, qd]
   refine zn 4 (fun L τ => L = [(2, .op 0 0 0), (3, .op 1 0 0), (6, .os true 1 2 (v12 + 1) 0 (qc (l11 ++ [y17.fName])) false), (7, .int .i64 x13), (8, .op 3 0 0), (112, .bool ((decide (y17.fLabel < 1)) || (decide (3 < y17.fLabel))))] ∧ τ = ([.cells 0 (encGSchema a0), .cells 0 (encGMessage a1), .cells (v12 + 1) (qf encS (l11 ++ [y17.fName])), .cells 0 (encGField y17), .cells 0 [.str y17.fName], .cells 0 (encGField r31.1)] : Store)) ?_ ?_
   · refine yH 108 rfl (fun hg108 => ?_) (fun hg108 => ?_)
     · have t35 := eq_true hg108
       refine za tok 4 ?_
       simp only [go_sem, qb, qa]
       refine zb ⟨rfl, _, _, ⟨rfl, rfl⟩, .p t35⟩
     have t36 := eq_false hg108
     refine za tok 4 ?_
     simp only [go_sem, qb, qa, qd]
     refine zb ⟨rfl, _, _, ⟨rfl, rfl⟩, .p t36⟩
   rintro _ _ ⟨rfl, rfl⟩
   refine za tok 1 ?_
   simp only [go_sem, qb, qa]
   obtain ⟨c37, hc37, h⟩ := zW h
   refine zn 6 (fun L τ => L = [(2, .op 0 0 0), (3, .op 1 0 0), (6, .os true 1 2 (v12 + 1) 0 (qc (l11 ++ [y17.fName])) false), (7, .int .i64 x13), (119, .bool c37)] ∧ τ = ([.cells 0 (encGSchema a0), .cells 0 (encGMessage a1), .cells (v12 + 1) (qf encS (l11 ++ [y17.fName])), .cells 0 (encGField y17), .cells 0 [.str y17.fName], .cells 0 (encGField r31.1)] : Store)) ?_ ?_
   · refine zQ (b := ((decide (y17.fLabel < 1)) || (decide (3 < y17.fLabel)))) 113 rfl (fun hg113 => ?_) (fun hg113 => ?_)
     · rw [if_pos hg113] at hc37
       refine za tok 6 ?_
       simp only [go_sem, qb, qa]
       subst hc37
       refine zb ⟨rfl, _, _, ⟨rfl, rfl⟩, .b hg113⟩
     rw [xK hg113] at hc37
     obtain ⟨r38, hr38, hc37⟩ := zW hc37
     refine za tok 3 ?_
     simp only [go_sem, qb, qe, qa, qd]
     refine zh rfl rfl rfl (yO.ev a0 y17.fType r38 hr38 _) ?_
     rintro _ _ ⟨rfl, rfl⟩
     refine za tok 2 ?_
     simp only [go_sem, qb, qa]
     subst hc37
     refine zb ⟨rfl, _, _, ⟨rfl, rfl⟩, .b hg113⟩
   rintro _ _ ⟨rfl, rfl⟩
   refine zb ?_
   simp only [zd, qa, reduceIte, zk, zo]
   apply hK
   refine zt (b := c37) rfl (fun hc39 => ?_) (fun hc39 => ?_)
   · rw [if_pos hc39] at h
     refine rg tok [4] fun K hK => ?_
     simp only [go_sem, qb, qa]
     apply hK
     refine zi ?_
     obtain rfl := Option.some.inj h
     exact yy
   rw [xK hc39] at h
   refine zf ?_
   apply hZ20
   refine rgE tok [2, 3, 6, 7] fun K hK => ?_
   simp only [go_sem, qb, qa, hw17]
   apply hK
   exact ⟨_, _, _, qw q17.length, ⟨p17 ++ [y17], q17, x13 + 1, l11 ++ [y17.fName], v12 + 1, rfl, rfl, rfl, hE'17, hi'17, h⟩, (.t [0, 1, 2] false)⟩
 obtain ⟨hz8, hw8, hx8, hE'8, hi'8⟩ := ye hE8 hi8 hb8
 simp only [zG.l8] at h
 refine ze fun Z40 hZ40 => ?_
 refine rg tok [2, 3, 5, 25] fun K hK => ?_
 simp only [go_sem, qb, qa, qd, hz8]
 apply hK
 refine zA rfl ?_
 refine zf ?_
 apply hZ40
 refine ze fun Z41 hZ41 => ?_
 refine zj ?_
 refine xN (fun L τ => ∃ (x42 : Bool), L = [(2, .op 0 0 0), (3, .op 1 0 0), (5, .int .i64 x6), (54, .bool x42)] ∧ τ = ([.cells 0 (encGSchema a0), .cells 0 (encGMessage a1)] : Store) ∧ zG.j43 x6 (zG.l8 a0 a1 q8) x42 = some r) ?_ ?_
 · refine rdE [2, 3, 5, 54] fun K hK => ?_
   refine DW.start (T := tab) [.any, .at [], .any, .any, .at [], .any, .any, .any, .at [], .any, .any, .at [], .any, .any, .any, .any, .at [], .any, .any, .any, .any, .at [], .any, .any, .at [], .eff, .any] [] ?_
   have f45 := E45.idxS hx8
   have f46 := E45.fldS0 (f := 3) rfl rfl hx8
   refine DW.runN tok 7 ?_
   simp only [go_sem, qb, qa, qd, encI, f45, f46]
   refine DW.if 34 rfl (fun hg34 => ?_) (fun hg34 => ?_)
   · rw [if_pos hg34] at h
     have t47 := eq_true hg34
     refine DW.runN tok 8 ?_
     simp only [go_sem, qb, qa, t47]
     refine DW.runN tok 8 ?_
     simp only [go_sem, qb, qa]
     refine DW.runN tok 4 ?_
     simp only [go_sem, qb, qa]
     refine DW.fin tok (by decide +kernel) rfl ?_
     simp only [zd, upd, qa, reduceIte, zk, zo]
     apply hK
     exact ⟨_, _, ⟨true, rfl, rfl, h⟩, .s⟩
   rw [if_neg hg34] at h
   have t48 := eq_false hg34
   have f49 := E45.idxS hx8
   have f50 := E45.fldS0 (f := 3) rfl rfl hx8
   refine DW.runN tok 8 ?_
   simp only [go_sem, qb, qa, qd, encI, t48, f49, f50]
   refine DW.if 42 rfl (fun hg42 => ?_) (fun hg42 => ?_)
   · rw [if_pos hg42] at h
     have t51 := eq_true hg42
     refine DW.runN tok 8 ?_
     simp only [go_sem, qb, qa, t51]
     refine DW.runN tok 4 ?_
     simp only [go_sem, qb, qa]
     refine DW.fin tok (by decide +kernel) rfl ?_
     simp only [zd, upd, qa, reduceIte, zk, zo]
     apply hK
     exact ⟨_, _, ⟨true, rfl, rfl, h⟩, .s⟩
   rw [if_neg hg42] at h
   have t52 := eq_false hg42
   obtain ⟨_u53, hu53, h⟩ := bind_some h
   have gu53 := wE hu53
   have f54 := E45.sl_hi gu53
   have f55 := E45.idxS hx8
   have f56 := E45.fldS0 (f := 3) rfl rfl hx8
   obtain ⟨r57, hr57, h⟩ := zW h
   refine DW.runN tok 8 ?_
   simp only [go_sem, qb, qe, qa, qd, t52, f54]
   refine DW.runN tok 2 ?_
   simp only [go_sem, qb, qa, encI, f55, f56]
   refine DW.call rfl rfl rfl (ACalls.loose (yl.ev (⟨[], ([] : List GField), Yt a1.fReserved 0 x6⟩ : GMessage) y8 r57 hr57 _)) ?_
   refine DW.runN tok 1 ?_
   simp only [go_sem, qb, qa]
   refine DW.fin tok (by decide +kernel) rfl ?_
   simp only [zd, upd, qa, reduceIte, zk, zo]
   apply hK
   exact ⟨_, _, ⟨r57, rfl, rfl, h⟩, .s⟩
 rintro _ _ ⟨x42, rfl, rfl, h⟩
 unfold zG.j43 at h
 refine zt (b := x42) rfl (fun hc44 => ?_) (fun hc44 => ?_)
 · rw [if_pos hc44] at h
   refine rg tok [4] fun K hK => ?_
   simp only [go_sem, qb, qa]
   apply hK
   refine zi ?_
   obtain rfl := Option.some.inj h
   exact yy
 rw [xK hc44] at h
 refine zf ?_
 apply hZ41
 refine rgE tok [2, 3, 5] fun K hK => ?_
 simp only [go_sem, qb, qa, hw8]
 apply hK
 exact ⟨_, _, _, qw q8.length, ⟨p8 ++ [y8], q8, x6 + 1, rfl, rfl, rfl, hE'8, hi'8, h⟩, .s⟩
theorem zG.ev (a0 : GSchema) (a1 : GMessage) (r : Int) (h : zG a0 a1 = some r) (σ : Store) : ACalls qh 82 [.agg (encGSchema a0), .agg (encGMessage a1)] σ (fun r' σ' => r' = .int .i64 r ∧ σ' = σ) :=
 (zG.ok a0 a1 r h).c σ
def zY.l38 (a0 : GEnumeration) (x17 : Int) (l15 : List (List UInt8)) (rec21 : Int → List (List UInt8) → Option Int) (y21 : GNamed) : Nat → Int → Option Int
 | 0, _ => none
 | k38 + 1, x36 => (if x36 < x17 then (wW a0.fValues x36).bind fun y43 => (if y43.fN = y21.fN then some 11 else ((zY.l38 a0 x17 l15 rec21 y21 k38) (IntKind.i64.wrap (x36 + 1)))) else (rec21 (x17 + 1) (l15 ++ [y21.fName])))
def zY.l21 (a0 : GEnumeration) : List GNamed → Int → List (List UInt8) → Option Int
 | [], x17, l15 => some 0
 | y21 :: q21, x17, l15 => (yj y21.fName l15).bind fun r28 => (if (!r28) = true then some 6 else (Yi (qc l15 + 1) 16).bind fun _u30 => (if ((decide (y21.fN < 0)) || (decide (2147483647 < y21.fN))) = true then some 11 else (zY.l38 a0 x17 l15 (zY.l21 a0 q21) y21 rounds 0)))
def zY.l10 (a0 : GEnumeration) : List GNamed → Int → Bool → Option Int
 | [], x7, x6 => (if (!x6) = true then some 12 else (zY.l21 a0 a0.fValues 0 ([] : List (List UInt8))))
 | y10 :: q10, x7, x6 => ((zY.l10 a0 q10) (x7 + 1) (x6 || (decide (y10.fN = 0))))
def zY (a0 : GEnumeration) : Option Int :=
 (if 16 < (qc a0.fValues : Int) then some 4 else (zY.l10 a0 a0.fValues 0 false))
theorem zY.ok (a0 : GEnumeration) (r : Int) (h : zY a0 = some r) : ACalls qh 83 [.agg (encGEnumeration a0)] [] (fun r' _ => r' = .int .i64 r) := by
 refine zm (rs := [.tmp 2]) tok Tryz.func83 rfl Tryz.ntmps83 rfl Tryz.call83 (by simp) ?_
 refine zq [(0, .agg (encGEnumeration a0))] ⟨rfl, trivial⟩ ?_
 unfold zY at h
 refine rg tok [1] fun K hK => ?_
 simp only [go_sem, qb, qa, qd, reduceCtorEq, encGEnumeration]
 apply hK
 refine ze fun Z1 hZ1 => ?_
 refine rg tok [1, 12] fun K hK => ?_
 simp only [go_sem, qb, qa, qd]
 apply hK
 refine zI rfl (fun hc2 => ?_) (fun hc2 => ?_)
 · rw [if_pos hc2] at h
   have t3 := eq_true hc2
   refine rg tok [2] fun K hK => ?_
   simp only [go_sem, qb, qa, t3]
   apply hK
   refine zi ?_
   obtain rfl := Option.some.inj h
   exact yy
 rw [if_neg hc2] at h
 have t4 := eq_false hc2
 refine zf ?_
 apply hZ1
 refine rg tok [1, 3] fun K hK => ?_
 simp only [go_sem, qb, qa, t4]
 apply hK
 refine ze fun Z5 hZ5 => ?_
 refine rg tok [1, 3, 4] fun K hK => ?_
 simp only [go_sem, qb, qa]
 apply hK
 refine zj ?_
 refine xz 0 rfl fun hb10 => ?_
 replace hb10 : qc a0.fValues ≤ 9223372036854775807 := hb10.2.1.1
 refine zB (fun m L τ => ∃ (p10 q10 : List GNamed) (x7 : Int) (x6 : Bool), m = qc q10 ∧ L = [(1, .op 0 0 0), (3, .bool x6), (4, .int .i64 x7)] ∧ τ = ([.cells 0 (encGEnumeration a0)] : Store) ∧ a0.fValues = p10 ++ q10 ∧ x7 = (qc p10 : Int) ∧ zY.l10 a0 q10 x7 x6 = some r) _ ⟨[], a0.fValues, 0, false, rfl, rfl, rfl, rfl, rfl, h⟩ .s ?_
 rintro m L τ ⟨p10, q10, x7, x6, rfl, rfl, rfl, hE10, hi10, h⟩
 rcases q10 with _ | ⟨y10, q10⟩
 · have hz10 := yC hE10 hi10
   simp only [zY.l10] at h
   refine ze fun Z11 hZ11 => ?_
   refine rg tok [1, 3, 4, 17] fun K hK => ?_
   simp only [go_sem, qb, qa, qd, hz10]
   apply hK
   refine zx rfl ?_
   refine zJ ?_
   apply hZ5
   refine ze fun Z12 hZ12 => ?_
   refine rg tok [1, 31] fun K hK => ?_
   simp only [go_sem, qb, qa]
   apply hK
   refine zt (b := (!x6)) rfl (fun hc13 => ?_) (fun hc13 => ?_)
   · rw [if_pos hc13] at h
     refine rg tok [2] fun K hK => ?_
     simp only [go_sem, qb, qa]
     apply hK
     refine zi ?_
     obtain rfl := Option.some.inj h
     exact yy
   rw [xK hc13] at h
   refine zf ?_
   apply hZ12
   refine rg tok [1, 5] fun K hK => ?_
   simp only [go_sem, qb, qa]
   apply hK
   refine Zx 5 1 rfl ?_
   refine yg (L := [(1, .op 0 0 0), (5, .os true 1 1 0 0 (qc ([] : List (List UInt8))) false)]) (τ := [.cells 0 (encGEnumeration a0), .cells 0 (qf encS ([] : List (List UInt8)))]) .s ?_
   refine ze fun Z14 hZ14 => ?_
   refine rg tok [1, 5, 6] fun K hK => ?_
   simp only [go_sem, qb, qa]
   apply hK
   refine zj ?_
   refine xz 0 rfl fun hb21 => ?_
   replace hb21 : qc a0.fValues ≤ 9223372036854775807 := hb21.2.1.1
   refine zB (fun m L τ => ∃ (p21 q21 : List GNamed) (x17 : Int) (l15 : List (List UInt8)) (v16 : Nat), m = qc q21 ∧ L = [(1, .op 0 0 0), (5, .os true 1 1 v16 0 (qc l15) false), (6, .int .i64 x17)] ∧ τ = ([.cells 0 (encGEnumeration a0), .cells v16 (qf encS l15)] : Store) ∧ a0.fValues = p21 ++ q21 ∧ x17 = (qc p21 : Int) ∧ zY.l21 a0 q21 x17 l15 = some r) _ ⟨[], a0.fValues, 0, ([] : List (List UInt8)), 0, rfl, rfl, rfl, rfl, rfl, h⟩ .s ?_
   rintro m L τ ⟨p21, q21, x17, l15, v16, rfl, rfl, rfl, hE21, hi21, h⟩
   rcases q21 with _ | ⟨y21, q21⟩
   · have hz21 := yC hE21 hi21
     simp only [zY.l21] at h
     refine ze fun Z22 hZ22 => ?_
     refine rg tok [1, 5, 6, 36] fun K hK => ?_
     simp only [go_sem, qb, qa, qd, hz21]
     apply hK
     refine zx rfl ?_
     refine zJ ?_
     apply hZ14
     refine rg tok [2] fun K hK => ?_
     simp only [go_sem, qb, qa]
     apply hK
     refine zi ?_
     obtain rfl := Option.some.inj h
     exact yy
   obtain ⟨hz21, hw21, hx21, hE'21, hi'21⟩ := ye hE21 hi21 hb21
   simp only [zY.l21] at h
   refine ze fun Z23 hZ23 => ?_
   refine rg tok [1, 5, 6, 36] fun K hK => ?_
   simp only [go_sem, qb, qa, qd, hz21]
   apply hK
   refine zA rfl ?_
   refine zf ?_
   apply hZ23
   refine ze fun Z24 hZ24 => ?_
   refine zj ?_
   have f25 := E82.idxS hx21
   have f26 := E82.loadS rfl rfl hx21
   refine rg tok [1, 5, 6, 7] fun K hK => ?_
   simp only [go_sem, qb, qe, qa, qd, encGNamed, f25, f26]
   apply hK
   refine ze fun Z27 hZ27 => ?_
   refine rc [1, 5, 6, 7, 48] fun K hK => ?_
   obtain ⟨r28, hr28, h⟩ := bind_some h
   refine za tok 3 ?_
   simp only [go_sem, qb, qa, qd]
   refine zh rfl rfl rfl (yj.ok y21.fName l15 r28 hr28).ld ?_
   rintro _ _ ⟨rfl, rfl⟩
   refine za tok 1 ?_
   simp only [go_sem, qb, qa]
   refine zb ?_
   simp only [zd, upd, qa, reduceIte, zk, zo]
   apply hK
   refine zt (b := (!r28)) rfl (fun hc29 => ?_) (fun hc29 => ?_)
   · rw [if_pos hc29] at h
     refine rg tok [2] fun K hK => ?_
     simp only [go_sem, qb, qa]
     apply hK
     refine zi ?_
     obtain rfl := Option.some.inj h
     exact yy
   rw [xK hc29] at h
   refine zf ?_
   apply hZ27
   obtain ⟨_u30, hu30, h⟩ := bind_some h
   have gu30 := yq hu30
   have f31 := (zE E98.len l15)
   refine rg tok [1, 5, 6, 7] fun K hK => ?_
   simp only [go_sem, qb, qe, qa, qd, qs, zO, z7, q7, qX, true_and, uf, yh, zU, yk, gu30, f31, yG, ud, q5, AV.one, qU, qB, qk, ql, qn, qH]
   apply hK
   refine yg (L := [(1, .op 0 0 0), (5, .os true 1 1 (v16 + 1) 0 (qc (l15 ++ [y21.fName])) false), (6, .int .i64 x17), (7, .op 2 0 0)]) (τ := [.cells 0 (encGEnumeration a0), .cells (v16 + 1) (qf encS (l15 ++ [y21.fName])), .cells 0 [.str y21.fName, .int .i64 y21.fN], .cells 0 [.str y21.fName]]) .s ?_
   refine ze fun Z32 hZ32 => ?_
   refine rc [1, 5, 6, 7, 61] fun K hK => ?_
   refine za tok 4 ?_
   simp only [go_sem, qb, qa, qd]
   refine zn 4 (fun L τ => L = [(1, .op 0 0 0), (5, .os true 1 1 (v16 + 1) 0 (qc (l15 ++ [y21.fName])) false), (6, .int .i64 x17), (7, .op 2 0 0), (61, .bool ((decide (y21.fN < 0)) || (decide (2147483647 < y21.fN))))] ∧ τ = ([.cells 0 (encGEnumeration a0), .cells (v16 + 1) (qf encS (l15 ++ [y21.fName])), .cells 0 [.str y21.fName, .int .i64 y21.fN], .cells 0 [.str y21.fName]] : Store)) ?_ ?_
   · refine yH 57 rfl (fun hg57 => ?_) (fun hg57 => ?_)
     · have t33 := eq_true hg57
       refine za tok 4 ?_
       simp only [go_sem, qb, qa]
       refine zb ⟨rfl, _, _, ⟨rfl, rfl⟩, .p t33⟩
     have t34 := eq_false hg57
     refine za tok 4 ?_
     simp only [go_sem, qb, qa, qd]
     refine zb ⟨rfl, _, _, ⟨rfl, rfl⟩, .p t34⟩
   rintro _ _ ⟨rfl, rfl⟩
   refine zb ?_
   simp only [zd, qa, reduceIte, zk, zo]
   apply hK
   refine zt (b := ((decide (y21.fN < 0)) || (decide (2147483647 < y21.fN)))) rfl (fun hc35 => ?_) (fun hc35 => ?_)
   · rw [if_pos hc35] at h
     refine rg tok [2] fun K hK => ?_
     simp only [go_sem, qb, qa]
     apply hK
     refine zi ?_
     obtain rfl := Option.some.inj h
     exact yy
   rw [xK hc35] at h
   refine zf ?_
   apply hZ32
   refine rg tok [1, 5, 6, 7, 8] fun K hK => ?_
   simp only [go_sem, qb, qa]
   apply hK
   refine zj ?_
   refine zB (fun m L τ => ∃ (k38 : Nat) (x36 : Int), m = 0 + k38 ∧ L = [(1, .op 0 0 0), (5, .os true 1 1 (v16 + 1) 0 (qc (l15 ++ [y21.fName])) false), (6, .int .i64 x17), (7, .op 2 0 0), (8, .int .i64 x36)] ∧ τ = ([.cells 0 (encGEnumeration a0), .cells (v16 + 1) (qf encS (l15 ++ [y21.fName])), .cells 0 [.str y21.fName, .int .i64 y21.fN]] : Store) ∧ zY.l38 a0 x17 l15 (zY.l21 a0 q21) y21 k38 x36 = some r) _ ⟨rounds, 0, rfl, rfl, rfl, h⟩ (.t [0, 1, 2] false) ?_
   rintro m L τ ⟨k38, x36, rfl, rfl, rfl, h⟩
   rcases k38 with _ | k38
   · cases h
   simp only [zY.l38] at h
   refine ze fun Z39 hZ39 => ?_
   refine rg tok [1, 5, 6, 7, 8, 64] fun K hK => ?_
   simp only [go_sem, qb, qa]
   apply hK
   refine zI rfl (fun hc40 => ?_) (fun hc40 => ?_)
   · rw [if_pos hc40] at h
     have t41 := eq_true hc40
     refine zf ?_
     apply hZ39
     refine ze fun Z42 hZ42 => ?_
     refine zj ?_
     obtain ⟨y43, hy43, h⟩ := bind_some h
     have f44 := E82.idxS hy43
     have f45 := E82.fldS (f := 3) rfl rfl hy43 (o := 1) (by decide)
     refine rd [1, 5, 6, 7, 8, 75] fun K hK => ?_
     refine DW.start (T := tab) [.any, .at [], .any, .any, .any, .at [], .any, .at [], .any] [] ?_
     refine DW.runN tok 8 ?_
     simp only [go_sem, qb, qa, qd, encGNamed, t41, f44, f45]
     refine DW.runN tok 1 ?_
     simp only [go_sem, qb, qa]
     refine DW.fin tok (by decide +kernel) rfl ?_
     simp only [zd, upd, qa, reduceIte, zk, zo]
     apply hK
     refine zI rfl (fun hc46 => ?_) (fun hc46 => ?_)
     · rw [if_pos hc46] at h
       have t47 := eq_true hc46
       refine rg tok [2] fun K hK => ?_
       simp only [go_sem, qb, qa, t47]
       apply hK
       refine zi ?_
       obtain rfl := Option.some.inj h
       exact yy
     rw [if_neg hc46] at h
     have t48 := eq_false hc46
     refine zf ?_
     apply hZ42
     refine rgE tok [1, 5, 6, 7, 8] fun K hK => ?_
     simp only [go_sem, qb, qa, t48]
     apply hK
     exact ⟨_, _, _, qw (0 + k38), ⟨k38, IntKind.i64.wrap (x36 + 1), rfl, rfl, rfl, h⟩, .s⟩
   rw [if_neg hc40] at h
   have t49 := eq_false hc40
   refine zJ ?_
   apply hZ24
   refine rgE tok [1, 5, 6] fun K hK => ?_
   simp only [go_sem, qb, qa, hw21, t49]
   apply hK
   exact ⟨_, _, _, qw q21.length, ⟨p21 ++ [y21], q21, x17 + 1, l15 ++ [y21.fName], v16 + 1, rfl, rfl, rfl, hE'21, hi'21, h⟩, (.t [0, 1] false)⟩
 obtain ⟨hz10, hw10, hx10, hE'10, hi'10⟩ := ye hE10 hi10 hb10
 simp only [zY.l10] at h
 refine ze fun Z50 hZ50 => ?_
 refine rg tok [1, 3, 4, 17] fun K hK => ?_
 simp only [go_sem, qb, qa, qd, hz10]
 apply hK
 refine zA rfl ?_
 refine zf ?_
 apply hZ50
 refine ze fun Z51 hZ51 => ?_
 refine zj ?_
 refine rcE [1, 3, 4] fun K hK => ?_
 refine za tok 2 ?_
 simp only [go_sem, qb, qa]
 refine zn 8 (fun L τ => L = [(1, .op 0 0 0), (3, .bool x6), (4, .int .i64 x7), (29, .bool (x6 || (decide (y10.fN = 0))))] ∧ τ = ([.cells 0 (encGEnumeration a0)] : Store)) ?_ ?_
 · refine zQ (b := x6) 21 rfl (fun hg21 => ?_) (fun hg21 => ?_)
   · refine za tok 8 ?_
     simp only [go_sem, qb, qa]
     refine zb ⟨rfl, _, _, ⟨rfl, rfl⟩, .b hg21⟩
   have f52 := E82.idxS hx10
   have f53 := E82.fldS (f := 3) rfl rfl hx10 (o := 1) (by decide)
   refine za tok 8 ?_
   simp only [go_sem, qb, qa, qd, encGNamed, f52, f53]
   refine zb ⟨rfl, _, _, ⟨rfl, rfl⟩, .b hg21⟩
 rintro _ _ ⟨rfl, rfl⟩
 refine za tok 1 ?_
 simp only [go_sem, qb, qa]
 refine zb ?_
 simp only [zd, upd, qa, reduceIte, zk, zo]
 apply hK
 apply hZ51
 refine rgE tok [1, 3, 4] fun K hK => ?_
 simp only [go_sem, qb, qa, hw10]
 apply hK
 exact ⟨_, _, _, qw q10.length, ⟨p10 ++ [y10], q10, x7 + 1, (x6 || (decide (y10.fN = 0))), rfl, rfl, rfl, hE'10, hi'10, h⟩, .s⟩
theorem zY.ev (a0 : GEnumeration) (r : Int) (h : zY a0 = some r) (σ : Store) : ACalls qh 83 [.agg (encGEnumeration a0)] σ (fun r' σ' => r' = .int .i64 r ∧ σ' = σ) :=
 (zY.ok a0 r h).c σ
def yw.l17 : List GEnumeration → Int → List (List UInt8) → Option Int
 | [], x13, l11 => some 0
 | y17 :: q17, x13, l11 => (yj y17.fName l11).bind fun r24 => (if (!r24) = true then some 6 else (Yi (qc l11 + 1) 16).bind fun _u28 => (zY y17).bind fun r32 => (if r32 = 0 then ((yw.l17 q17) (x13 + 1) (l11 ++ [y17.fName])) else some r32))
def yw.l8 (a0 : GSchema) : List GMessage → Int → List (List UInt8) → Option Int
 | [], x4, l2 => (yw.l17 a0.fEnums 0 l2)
 | y8 :: q8, x4, l2 => (yj y8.fName l2).bind fun r41 => (if (!r41) = true then some 6 else (Yi (qc l2 + 1) 16).bind fun _u45 => (zG a0 y8).bind fun r49 => (if r49 = 0 then ((yw.l8 a0 q8) (x4 + 1) (l2 ++ [y8.fName])) else some r49))
def yw (a0 : GSchema) : Option Int :=
 (yw.l8 a0 a0.fMessages 0 ([] : List (List UInt8)))
theorem yw.ok (a0 : GSchema) (r : Int) (h : yw a0 = some r) : ACalls qh 46 [.agg (encGSchema a0)] [] (fun r' _ => r' = .int .i64 r) := by
 refine zm (rs := [.tmp 2]) tok Tryz.func46 rfl Tryz.ntmps46 rfl Tryz.call46 (by simp) ?_
 refine zq [(0, .agg (encGSchema a0))] ⟨rfl, trivial⟩ ?_
 unfold yw at h
 refine rg tok [1] fun K hK => ?_
 simp only [go_sem, qb, qa, qd, reduceCtorEq, encGSchema]
 apply hK
 refine rg tok [1, 3] fun K hK => ?_
 simp only [go_sem, qb, qa]
 apply hK
 refine Zx 3 1 rfl ?_
 refine yg (L := [(1, .op 0 0 0), (3, .os true 1 1 0 0 (qc ([] : List (List UInt8))) false)]) (τ := [.cells 0 (encGSchema a0), .cells 0 (qf encS ([] : List (List UInt8)))]) .s ?_
 refine ze fun Z1 hZ1 => ?_
 refine rg tok [1, 3, 4] fun K hK => ?_
 simp only [go_sem, qb, qa]
 apply hK
 refine zj ?_
 refine xz 0 rfl fun hb8 => ?_
 replace hb8 : qc a0.fMessages ≤ 9223372036854775807 := hb8.2.1.1
 refine zB (fun m L τ => ∃ (p8 q8 : List GMessage) (x4 : Int) (l2 : List (List UInt8)) (v3 : Nat), m = qc q8 ∧ L = [(1, .op 0 0 0), (3, .os true 1 1 v3 0 (qc l2) false), (4, .int .i64 x4)] ∧ τ = ([.cells 0 (encGSchema a0), .cells v3 (qf encS l2)] : Store) ∧ a0.fMessages = p8 ++ q8 ∧ x4 = (qc p8 : Int) ∧ yw.l8 a0 q8 x4 l2 = some r) _ ⟨[], a0.fMessages, 0, ([] : List (List UInt8)), 0, rfl, rfl, rfl, rfl, rfl, h⟩ .s ?_
 rintro m L τ ⟨p8, q8, x4, l2, v3, rfl, rfl, rfl, hE8, hi8, h⟩
 rcases q8 with _ | ⟨y8, q8⟩
 · have hz8 := yC hE8 hi8
   simp only [yw.l8] at h
   refine ze fun Z9 hZ9 => ?_
   refine rg tok [1, 3, 4, 12] fun K hK => ?_
   simp only [go_sem, qb, qa, qd, hz8]
   apply hK
   refine zx rfl ?_
   refine zJ ?_
   apply hZ1
   refine ze fun Z10 hZ10 => ?_
   refine rg tok [1, 3, 6] fun K hK => ?_
   simp only [go_sem, qb, qa]
   apply hK
   refine zj ?_
   refine xz 0 rfl fun hb17 => ?_
   replace hb17 : qc a0.fEnums ≤ 9223372036854775807 := hb17.2.2.1.1
   refine zB (fun m L τ => ∃ (p17 q17 : List GEnumeration) (x13 : Int) (l11 : List (List UInt8)) (v12 : Nat), m = qc q17 ∧ L = [(1, .op 0 0 0), (3, .os true 1 1 v12 0 (qc l11) false), (6, .int .i64 x13)] ∧ τ = ([.cells 0 (encGSchema a0), .cells v12 (qf encS l11)] : Store) ∧ a0.fEnums = p17 ++ q17 ∧ x13 = (qc p17 : Int) ∧ yw.l17 q17 x13 l11 = some r) _ ⟨[], a0.fEnums, 0, l2, v3, rfl, rfl, rfl, rfl, rfl, h⟩ .s ?_
   rintro m L τ ⟨p17, q17, x13, l11, v12, rfl, rfl, rfl, hE17, hi17, h⟩
   rcases q17 with _ | ⟨y17, q17⟩
   · have hz17 := yC hE17 hi17
     simp only [yw.l17] at h
     refine ze fun Z18 hZ18 => ?_
     refine rg tok [1, 3, 6, 47] fun K hK => ?_
     simp only [go_sem, qb, qa, qd, hz17]
     apply hK
     refine zx rfl ?_
     refine zJ ?_
     apply hZ10
     refine rg tok [2] fun K hK => ?_
     simp only [go_sem, qb, qa]
     apply hK
     refine zi ?_
     obtain rfl := Option.some.inj h
     exact yy
   obtain ⟨hz17, hw17, hx17, hE'17, hi'17⟩ := ye hE17 hi17 hb17
   simp only [yw.l17] at h
   refine ze fun Z19 hZ19 => ?_
   refine rg tok [1, 3, 6, 47] fun K hK => ?_
   simp only [go_sem, qb, qa, qd, hz17]
   apply hK
   refine zA rfl ?_
   refine zf ?_
   apply hZ19
   refine ze fun Z20 hZ20 => ?_
   refine zj ?_
   refine ze fun Z21 hZ21 => ?_
   refine rc [1, 3, 6, 58] fun K hK => ?_
   have f22 := E23.idxS hx17
   have f23 := E23.fldS0 (f := 9) rfl rfl hx17
   obtain ⟨r24, hr24, h⟩ := bind_some h
   refine za tok 7 ?_
   simp only [go_sem, qb, qa, qd, encGEnumeration, f22, f23]
   refine zh rfl rfl rfl (yj.ok y17.fName l11 r24 hr24).ld ?_
   rintro _ _ ⟨rfl, rfl⟩
   refine za tok 1 ?_
   simp only [go_sem, qb, qa]
   refine zb ?_
   simp only [zd, upd, qa, reduceIte, zk, zo]
   apply hK
   refine zt (b := (!r24)) rfl (fun hc25 => ?_) (fun hc25 => ?_)
   · rw [if_pos hc25] at h
     refine rg tok [2] fun K hK => ?_
     simp only [go_sem, qb, qa]
     apply hK
     refine zi ?_
     obtain rfl := Option.some.inj h
     exact yy
   rw [xK hc25] at h
   refine zf ?_
   apply hZ21
   have f26 := E23.idxS hx17
   have f27 := E23.fldS0 (f := 9) rfl rfl hx17
   obtain ⟨_u28, hu28, h⟩ := bind_some h
   have gu28 := yq hu28
   have f29 := (zE E98.len l11)
   refine rg tok [1, 3, 6] fun K hK => ?_
   simp only [go_sem, qb, qe, qa, qd, qs, zO, z7, q7, qX, true_and, uf, yh, zU, yk, encGEnumeration, f26, f27, gu28, f29, yG, ud, q5, AV.one, qU, qB, qk, ql, qn, qH]
   apply hK
   refine yg (L := [(1, .op 0 0 0), (3, .os true 1 1 (v12 + 1) 0 (qc (l11 ++ [y17.fName])) false), (6, .int .i64 x13)]) (τ := [.cells 0 (encGSchema a0), .cells (v12 + 1) (qf encS (l11 ++ [y17.fName])), .cells 0 [.str y17.fName]]) .s ?_
   refine rc [1, 3, 6, 7] fun K hK => ?_
   have f30 := E23.idxS hx17
   have f31 := E23.loadS rfl rfl hx17
   obtain ⟨r32, hr32, h⟩ := bind_some h
   refine za tok 5 ?_
   simp only [go_sem, qb, qa, qd, encGEnumeration, f30, f31]
   refine zh rfl rfl rfl (zY.ev y17 r32 hr32 _) ?_
   rintro _ _ ⟨rfl, rfl⟩
   refine za tok 1 ?_
   simp only [go_sem, qb, qa]
   refine zb ?_
   simp only [zd, upd, qa, reduceIte, zk, zo]
   apply hK
   refine rg tok [1, 3, 6, 7, 75] fun K hK => ?_
   simp only [go_sem, qb, qa]
   apply hK
   refine zI rfl (fun hc33 => ?_) (fun hc33 => ?_)
   · rw [if_neg hc33] at h
     have t34 := eq_false hc33
     refine rg tok [2] fun K hK => ?_
     simp only [go_sem, qb, qa, t34]
     apply hK
     refine zi ?_
     obtain rfl := Option.some.inj h
     exact yy
   rw [if_pos hc33] at h
   have t35 := eq_true hc33
   refine zf ?_
   apply hZ20
   refine rgE tok [1, 3, 6] fun K hK => ?_
   simp only [go_sem, qb, qa, hw17, t35]
   apply hK
   exact ⟨_, _, _, qw q17.length, ⟨p17 ++ [y17], q17, x13 + 1, l11 ++ [y17.fName], v12 + 1, rfl, rfl, rfl, hE'17, hi'17, h⟩, (.t [0, 1] false)⟩
 obtain ⟨hz8, hw8, hx8, hE'8, hi'8⟩ := ye hE8 hi8 hb8
 simp only [yw.l8] at h
 refine ze fun Z36 hZ36 => ?_
 refine rg tok [1, 3, 4, 12] fun K hK => ?_
 simp only [go_sem, qb, qa, qd, hz8]
 apply hK
 refine zA rfl ?_
 refine zf ?_
 apply hZ36
 refine ze fun Z37 hZ37 => ?_
 refine zj ?_
 refine ze fun Z38 hZ38 => ?_
 refine rc [1, 3, 4, 23] fun K hK => ?_
 have f39 := E22.idxS hx8
 have f40 := E22.fldS0 (f := 9) rfl rfl hx8
 obtain ⟨r41, hr41, h⟩ := bind_some h
 refine za tok 7 ?_
 simp only [go_sem, qb, qa, qd, encGMessage, f39, f40]
 refine zh rfl rfl rfl (yj.ok y8.fName l2 r41 hr41).ld ?_
 rintro _ _ ⟨rfl, rfl⟩
 refine za tok 1 ?_
 simp only [go_sem, qb, qa]
 refine zb ?_
 simp only [zd, upd, qa, reduceIte, zk, zo]
 apply hK
 refine zt (b := (!r41)) rfl (fun hc42 => ?_) (fun hc42 => ?_)
 · rw [if_pos hc42] at h
   refine rg tok [2] fun K hK => ?_
   simp only [go_sem, qb, qa]
   apply hK
   refine zi ?_
   obtain rfl := Option.some.inj h
   exact yy
 rw [xK hc42] at h
 refine zf ?_
 apply hZ38
 have f43 := E22.idxS hx8
 have f44 := E22.fldS0 (f := 9) rfl rfl hx8
 obtain ⟨_u45, hu45, h⟩ := bind_some h
 have gu45 := yq hu45
 have f46 := (zE E98.len l2)
 refine rg tok [1, 3, 4] fun K hK => ?_
 simp only [go_sem, qb, qe, qa, qd, qs, zO, z7, q7, qX, true_and, uf, yh, zU, yk, encGMessage, f43, f44, gu45, f46, yG, ud, q5, AV.one, qU, qB, qk, ql, qn, qH]
 apply hK
 refine yg (L := [(1, .op 0 0 0), (3, .os true 1 1 (v3 + 1) 0 (qc (l2 ++ [y8.fName])) false), (4, .int .i64 x4)]) (τ := [.cells 0 (encGSchema a0), .cells (v3 + 1) (qf encS (l2 ++ [y8.fName])), .cells 0 [.str y8.fName]]) .s ?_
 have f47 := E22.idxS hx8
 have f48 := E22.loadS rfl rfl hx8
 obtain ⟨r49, hr49, h⟩ := bind_some h
 refine rd [1, 3, 4, 5] fun K hK => ?_
 refine DW.start (T := tab) [.at [], .any, .at [], .any, .any, .at [], .eff, .any] [] ?_
 refine DW.runN tok 6 ?_
 simp only [go_sem, qb, qe, qa, qd, encGMessage, f47, f48]
 refine DW.call rfl rfl rfl (zG.ev a0 y8 r49 hr49 _) ?_
 refine DW.runN tok 1 ?_
 simp only [go_sem, qb, qa]
 refine DW.fin tok (by decide +kernel) rfl ?_
 simp only [zd, upd, qa, reduceIte, zk, zo]
 apply hK
 refine rg tok [1, 3, 4, 5, 41] fun K hK => ?_
 simp only [go_sem, qb, qa]
 apply hK
 refine zI rfl (fun hc50 => ?_) (fun hc50 => ?_)
 · rw [if_neg hc50] at h
   have t51 := eq_false hc50
   refine rg tok [2] fun K hK => ?_
   simp only [go_sem, qb, qa, t51]
   apply hK
   refine zi ?_
   obtain rfl := Option.some.inj h
   exact yy
 rw [if_pos hc50] at h
 have t52 := eq_true hc50
 refine zf ?_
 apply hZ37
 refine rgE tok [1, 3, 4] fun K hK => ?_
 simp only [go_sem, qb, qa, hw8, t52]
 apply hK
 exact ⟨_, _, _, qw q8.length, ⟨p8 ++ [y8], q8, x4 + 1, l2 ++ [y8.fName], v3 + 1, rfl, rfl, rfl, hE'8, hi'8, h⟩, (.t [0, 1] false)⟩
theorem yw.ev (a0 : GSchema) (r : Int) (h : yw a0 = some r) (σ : Store) : ACalls qh 46 [.agg (encGSchema a0)] σ (fun r' σ' => r' = .int .i64 r ∧ σ' = σ) :=
 (yw.ok a0 r h).c σ
def yV.l22 (a0 : GSchema) : List GMethod → Int → List (List UInt8) → Option Int
 | [], x18, l16 => some 0
 | y22 :: q22, x18, l16 => (yj y22.fName l16).bind fun r29 => (if (!r29) = true then some 6 else (Yi (qc l16 + 1) 16).bind fun _u31 => bnd (yc a0 y22.fIn) fun r33 => bnd (yc a0 y22.fOut) fun r34 => (if ((!r33.2) || (!r34.2)) = true then some 8 else ((yV.l22 a0 q22) (x18 + 1) (l16 ++ [y22.fName]))))
def yV (a0 : GSchema) : Option Int :=
 (yW a0.fName).bind fun r2 => (if (!r2) = true then some 6 else (if (qc a0.fMessages : Int) = 0 then some 12 else (if (((decide (10 < (qc a0.fMessages : Int))) || (decide (6 < (qc a0.fEnums : Int)))) || (decide (6 < (qc a0.fMethods : Int)))) = true then some 4 else (yw a0).bind fun r11 => (if r11 = 0 then (yV.l22 a0 a0.fMethods 0 ([] : List (List UInt8))) else some r11))))
theorem yV.ok (a0 : GSchema) (r : Int) (h : yV a0 = some r) : ACalls qh 21 [.agg (encGSchema a0)] [] (fun r' _ => r' = .int .i64 r) := by
 refine zm (rs := [.tmp 2]) tok Tryz.func21 rfl Tryz.ntmps21 rfl Tryz.call21 (by simp) ?_
 refine zq [(0, .agg (encGSchema a0))] ⟨rfl, trivial⟩ ?_
 unfold yV at h
 refine rg tok [1] fun K hK => ?_
 simp only [go_sem, qb, qa, qd, reduceCtorEq, encGSchema]
 apply hK
 refine ze fun Z1 hZ1 => ?_
 refine zj ?_
 refine rc [1, 11] fun K hK => ?_
 obtain ⟨r2, hr2, h⟩ := bind_some h
 refine za tok 2 ?_
 simp only [go_sem, qb, qa, qd]
 refine zh rfl rfl rfl (yW.ev a0.fName r2 hr2 _) ?_
 rintro _ _ ⟨rfl, rfl⟩
 refine za tok 2 ?_
 simp only [go_sem, qb, qa]
 refine zb ?_
 simp only [zd, upd, qa, reduceIte, zk, zo]
 apply hK
 refine zt (b := (!r2)) rfl (fun hc3 => ?_) (fun hc3 => ?_)
 · rw [if_pos hc3] at h
   refine rg tok [2] fun K hK => ?_
   simp only [go_sem, qb, qa]
   apply hK
   refine zi ?_
   obtain rfl := Option.some.inj h
   exact yy
 rw [xK hc3] at h
 refine rg tok [1, 16] fun K hK => ?_
 simp only [go_sem, qb, qa, qd]
 apply hK
 refine zI rfl (fun hc4 => ?_) (fun hc4 => ?_)
 · rw [if_pos hc4] at h
   have t5 := eq_true hc4
   refine rg tok [2] fun K hK => ?_
   simp only [go_sem, qb, qa, t5]
   apply hK
   refine zi ?_
   obtain rfl := Option.some.inj h
   exact yy
 rw [if_neg hc4] at h
 have t6 := eq_false hc4
 refine rc [1, 21] fun K hK => ?_
 refine za tok 5 ?_
 simp only [go_sem, qb, qa, qd, t6]
 refine zn 5 (fun L τ => L = [(1, .op 0 0 0), (31, .bool ((decide (10 < (qc a0.fMessages : Int))) || (decide (6 < (qc a0.fEnums : Int)))))] ∧ τ = ([.cells 0 (encGSchema a0)] : Store)) ?_ ?_
 · refine yH 26 rfl (fun hg26 => ?_) (fun hg26 => ?_)
   · have t7 := eq_true hg26
     refine za tok 5 ?_
     simp only [go_sem, qb, qa]
     refine zb ⟨rfl, _, _, ⟨rfl, rfl⟩, .p t7⟩
   have t8 := eq_false hg26
   refine za tok 5 ?_
   simp only [go_sem, qb, qa, qd]
   refine zb ⟨rfl, _, _, ⟨rfl, rfl⟩, .p t8⟩
 rintro _ _ ⟨rfl, rfl⟩
 refine za tok 1 ?_
 simp only [go_sem, qb, qa]
 refine zn 5 (fun L τ => L = [(1, .op 0 0 0), (37, .bool (((decide (10 < (qc a0.fMessages : Int))) || (decide (6 < (qc a0.fEnums : Int)))) || (decide (6 < (qc a0.fMethods : Int)))))] ∧ τ = ([.cells 0 (encGSchema a0)] : Store)) ?_ ?_
 · refine zQ (b := ((decide (10 < (qc a0.fMessages : Int))) || (decide (6 < (qc a0.fEnums : Int))))) 32 rfl (fun hg32 => ?_) (fun hg32 => ?_)
   · refine za tok 5 ?_
     simp only [go_sem, qb, qa]
     refine zb ⟨rfl, _, _, ⟨rfl, rfl⟩, .b hg32⟩
   refine za tok 5 ?_
   simp only [go_sem, qb, qa, qd]
   refine zb ⟨rfl, _, _, ⟨rfl, rfl⟩, .b hg32⟩
 rintro _ _ ⟨rfl, rfl⟩
 refine za tok 1 ?_
 simp only [go_sem, qb, qa]
 refine zb ?_
 simp only [zd, upd, qa, reduceIte, zk, zo]
 apply hK
 refine zt (b := (((decide (10 < (qc a0.fMessages : Int))) || (decide (6 < (qc a0.fEnums : Int)))) || (decide (6 < (qc a0.fMethods : Int))))) rfl (fun hc9 => ?_) (fun hc9 => ?_)
 · rw [if_pos hc9] at h
   refine rg tok [2] fun K hK => ?_
   simp only [go_sem, qb, qa]
   apply hK
   refine zi ?_
   obtain rfl := Option.some.inj h
   exact yy
 rw [xK hc9] at h
 refine zf ?_
 apply hZ1
 refine ze fun Z10 hZ10 => ?_
 refine rc [1, 3] fun K hK => ?_
 obtain ⟨r11, hr11, h⟩ := bind_some h
 refine za tok 1 ?_
 simp only [go_sem, qb, qe, qa, qd]
 refine zh rfl rfl rfl (yw.ev a0 r11 hr11 _) ?_
 rintro _ _ ⟨rfl, rfl⟩
 refine za tok 1 ?_
 simp only [go_sem, qb, qa]
 refine zb ?_
 simp only [zd, upd, qa, reduceIte, zk, zo]
 apply hK
 refine rg tok [1, 3, 41] fun K hK => ?_
 simp only [go_sem, qb, qa]
 apply hK
 refine zI rfl (fun hc12 => ?_) (fun hc12 => ?_)
 · rw [if_neg hc12] at h
   have t13 := eq_false hc12
   refine rg tok [2] fun K hK => ?_
   simp only [go_sem, qb, qa, t13]
   apply hK
   refine zi ?_
   obtain rfl := Option.some.inj h
   exact yy
 rw [if_pos hc12] at h
 have t14 := eq_true hc12
 refine zf ?_
 apply hZ10
 refine rg tok [1, 4] fun K hK => ?_
 simp only [go_sem, qb, qa, t14]
 apply hK
 refine Zx 4 1 rfl ?_
 refine yg (L := [(1, .op 0 0 0), (4, .os true 1 1 0 0 (qc ([] : List (List UInt8))) false)]) (τ := [.cells 0 (encGSchema a0), .cells 0 (qf encS ([] : List (List UInt8)))]) .s ?_
 refine ze fun Z15 hZ15 => ?_
 refine rg tok [1, 4, 5] fun K hK => ?_
 simp only [go_sem, qb, qa]
 apply hK
 refine zj ?_
 refine xz 0 rfl fun hb22 => ?_
 replace hb22 : qc a0.fMethods ≤ 9223372036854775807 := hb22.2.2.2.1.1
 refine zB (fun m L τ => ∃ (p22 q22 : List GMethod) (x18 : Int) (l16 : List (List UInt8)) (v17 : Nat), m = qc q22 ∧ L = [(1, .op 0 0 0), (4, .os true 1 1 v17 0 (qc l16) false), (5, .int .i64 x18)] ∧ τ = ([.cells 0 (encGSchema a0), .cells v17 (qf encS l16)] : Store) ∧ a0.fMethods = p22 ++ q22 ∧ x18 = (qc p22 : Int) ∧ yV.l22 a0 q22 x18 l16 = some r) _ ⟨[], a0.fMethods, 0, ([] : List (List UInt8)), 0, rfl, rfl, rfl, rfl, rfl, h⟩ .s ?_
 rintro m L τ ⟨p22, q22, x18, l16, v17, rfl, rfl, rfl, hE22, hi22, h⟩
 rcases q22 with _ | ⟨y22, q22⟩
 · have hz22 := yC hE22 hi22
   simp only [yV.l22] at h
   refine ze fun Z23 hZ23 => ?_
   refine rg tok [1, 4, 5, 47] fun K hK => ?_
   simp only [go_sem, qb, qa, qd, hz22]
   apply hK
   refine zx rfl ?_
   refine zJ ?_
   apply hZ15
   refine rg tok [2] fun K hK => ?_
   simp only [go_sem, qb, qa]
   apply hK
   refine zi ?_
   obtain rfl := Option.some.inj h
   exact yy
 obtain ⟨hz22, hw22, hx22, hE'22, hi'22⟩ := ye hE22 hi22 hb22
 simp only [yV.l22] at h
 refine ze fun Z24 hZ24 => ?_
 refine rg tok [1, 4, 5, 47] fun K hK => ?_
 simp only [go_sem, qb, qa, qd, hz22]
 apply hK
 refine zA rfl ?_
 refine zf ?_
 apply hZ24
 refine ze fun Z25 hZ25 => ?_
 refine zj ?_
 have f26 := E24.idxS hx22
 have f27 := E24.loadS rfl rfl hx22
 refine rg tok [1, 4, 5, 6] fun K hK => ?_
 simp only [go_sem, qb, qe, qa, qd, encGMethod, f26, f27]
 apply hK
 refine ze fun Z28 hZ28 => ?_
 refine rc [1, 4, 5, 6, 59] fun K hK => ?_
 obtain ⟨r29, hr29, h⟩ := bind_some h
 refine za tok 3 ?_
 simp only [go_sem, qb, qa, qd]
 refine zh rfl rfl rfl (yj.ok y22.fName l16 r29 hr29).ld ?_
 rintro _ _ ⟨rfl, rfl⟩
 refine za tok 1 ?_
 simp only [go_sem, qb, qa]
 refine zb ?_
 simp only [zd, upd, qa, reduceIte, zk, zo]
 apply hK
 refine zt (b := (!r29)) rfl (fun hc30 => ?_) (fun hc30 => ?_)
 · rw [if_pos hc30] at h
   refine rg tok [2] fun K hK => ?_
   simp only [go_sem, qb, qa]
   apply hK
   refine zi ?_
   obtain rfl := Option.some.inj h
   exact yy
 rw [xK hc30] at h
 refine zf ?_
 apply hZ28
 obtain ⟨_u31, hu31, h⟩ := bind_some h
 have gu31 := yq hu31
 have f32 := (zE E98.len l16)
 refine rg tok [1, 4, 5, 6] fun K hK => ?_
 simp only [go_sem, qb, qe, qa, qd, qs, zO, z7, q7, qX, true_and, uf, yh, zU, yk, gu31, f32, yG, ud, q5, AV.one, qU, qB, qk, ql, qn, qH]
 apply hK
 refine yg (L := [(1, .op 0 0 0), (4, .os true 1 1 (v17 + 1) 0 (qc (l16 ++ [y22.fName])) false), (5, .int .i64 x18), (6, .op 2 0 0)]) (τ := [.cells 0 (encGSchema a0), .cells (v17 + 1) (qf encS (l16 ++ [y22.fName])), .cells 0 [.str y22.fName, .str y22.fIn, .str y22.fOut], .cells 0 [.str y22.fName]]) .s ?_
 refine rc [1, 4, 5, 6, 8] fun K hK => ?_
 obtain ⟨r33, hr33, h⟩ := zW h
 refine za tok 3 ?_
 simp only [go_sem, qb, qe, qa, qd]
 refine zh rfl rfl rfl (yc.ev a0 y22.fIn r33 hr33 _) ?_
 rintro _ _ ⟨rfl, rfl⟩
 refine za tok 6 ?_
 simp only [go_sem, qb, qe, qa, qd, encGMessage]
 refine zb ?_
 simp only [zd, upd, qa, reduceIte, zk, zo]
 apply hK
 refine rc [1, 4, 5, 8, 10] fun K hK => ?_
 obtain ⟨r34, hr34, h⟩ := zW h
 refine za tok 3 ?_
 simp only [go_sem, qb, qe, qa, qd]
 refine zh rfl rfl rfl (yc.ev a0 y22.fOut r34 hr34 _) ?_
 rintro _ _ ⟨rfl, rfl⟩
 refine za tok 6 ?_
 simp only [go_sem, qb, qe, qa, qd, encGMessage]
 refine zb ?_
 simp only [zd, upd, qa, reduceIte, zk, zo]
 apply hK
 refine rc [1, 4, 5, 84] fun K hK => ?_
 refine za tok 3 ?_
 simp only [go_sem, qb, qa]
 refine zn 3 (fun L τ => L = [(1, .op 0 0 0), (4, .os true 1 1 (v17 + 1) 0 (qc (l16 ++ [y22.fName])) false), (5, .int .i64 x18), (84, .bool ((!r33.2) || (!r34.2)))] ∧ τ = ([.cells 0 (encGSchema a0), .cells (v17 + 1) (qf encS (l16 ++ [y22.fName])), .cells 0 [.str y22.fName, .str y22.fIn, .str y22.fOut], .cells 0 [.str y22.fName], .cells 0 (encGMessage r33.1), .cells 0 (encGMessage r34.1)] : Store)) ?_ ?_
 · refine zQ (b := (!r33.2)) 81 rfl (fun hg81 => ?_) (fun hg81 => ?_)
   · refine za tok 3 ?_
     simp only [go_sem, qb, qa]
     refine zb ⟨rfl, _, _, ⟨rfl, rfl⟩, .b hg81⟩
   refine za tok 3 ?_
   simp only [go_sem, qb, qa]
   refine zb ⟨rfl, _, _, ⟨rfl, rfl⟩, .b hg81⟩
 rintro _ _ ⟨rfl, rfl⟩
 refine zb ?_
 simp only [zd, qa, reduceIte, zk, zo]
 apply hK
 refine zt (b := ((!r33.2) || (!r34.2))) rfl (fun hc35 => ?_) (fun hc35 => ?_)
 · rw [if_pos hc35] at h
   refine rg tok [2] fun K hK => ?_
   simp only [go_sem, qb, qa]
   apply hK
   refine zi ?_
   obtain rfl := Option.some.inj h
   exact yy
 rw [xK hc35] at h
 refine zf ?_
 apply hZ25
 refine rgE tok [1, 4, 5] fun K hK => ?_
 simp only [go_sem, qb, qa, hw22]
 apply hK
 exact ⟨_, _, _, qw q22.length, ⟨p22 ++ [y22], q22, x18 + 1, l16 ++ [y22.fName], v17 + 1, rfl, rfl, rfl, hE'22, hi'22, h⟩, (.t [0, 1] false)⟩
theorem yV.ev (a0 : GSchema) (r : Int) (h : yV a0 = some r) (σ : Store) : ACalls qh 21 [.agg (encGSchema a0)] σ (fun r' σ' => r' = .int .i64 r ∧ σ' = σ) :=
 (yV.ok a0 r h).c σ
def wK (a0 : GTree) : Bool :=
 ((((((decide (1 ≤ a0.fKind)) && (decide (a0.fKind ≤ 3))) && (decide (a0.fN = 0))) && (decide (a0.fS = []))) && (decide ((qc a0.fEntries : Int) = 0))) && (decide ((qc a0.fRest : Int) = 0)))
theorem wK.ok (a0 : GTree) (r : Bool) (h : wK a0 = r) : ACalls qh 86 [.agg (cellsGTree a0)] [] (fun r' _ => r' = .bool r) := by
 refine zm (rs := [.tmp 2]) tok Tryz.func86 rfl Tryz.ntmps86 rfl Tryz.call86 (by simp) ?_
 refine zq [(0, .agg (cellsGTree a0))] ⟨rfl, trivial⟩ ?_
 unfold wK at h
 refine rg tok [1] fun K hK => ?_
 simp only [go_sem, qb, qa, qd, reduceCtorEq, cellsGTree]
 apply hK
 refine rc [2] fun K hK => ?_
 refine za tok 4 ?_
 simp only [go_sem, qb, qa, qd]
 refine zn 4 (fun L τ => L = [(1, .op 0 0 0), (10, .bool ((decide (1 ≤ a0.fKind)) && (decide (a0.fKind ≤ 3))))] ∧ τ = ([.cells 0 (cellsGTree a0)] : Store)) ?_ ?_
 · refine yH 6 rfl (fun hg6 => ?_) (fun hg6 => ?_)
   · have t1 := eq_true hg6
     refine za tok 4 ?_
     simp only [go_sem, qb, qa, qd]
     refine zb ⟨rfl, _, _, ⟨rfl, rfl⟩, .p t1⟩
   have t2 := eq_false hg6
   refine za tok 4 ?_
   simp only [go_sem, qb, qa]
   refine zb ⟨rfl, _, _, ⟨rfl, rfl⟩, .p t2⟩
 rintro _ _ ⟨rfl, rfl⟩
 refine za tok 1 ?_
 simp only [go_sem, qb, qa]
 refine zn 4 (fun L τ => L = [(1, .op 0 0 0), (15, .bool (((decide (1 ≤ a0.fKind)) && (decide (a0.fKind ≤ 3))) && (decide (a0.fN = 0))))] ∧ τ = ([.cells 0 (cellsGTree a0)] : Store)) ?_ ?_
 · refine zQ (b := ((decide (1 ≤ a0.fKind)) && (decide (a0.fKind ≤ 3)))) 11 rfl (fun hg11 => ?_) (fun hg11 => ?_)
   · refine za tok 4 ?_
     simp only [go_sem, qb, qa, qd]
     refine zb ⟨rfl, _, _, ⟨rfl, rfl⟩, .b hg11⟩
   refine za tok 4 ?_
   simp only [go_sem, qb, qa]
   refine zb ⟨rfl, _, _, ⟨rfl, rfl⟩, .b hg11⟩
 rintro _ _ ⟨rfl, rfl⟩
 refine za tok 1 ?_
 simp only [go_sem, qb, qa]
 refine zn 4 (fun L τ => L = [(1, .op 0 0 0), (20, .bool ((((decide (1 ≤ a0.fKind)) && (decide (a0.fKind ≤ 3))) && (decide (a0.fN = 0))) && (decide (a0.fS = []))))] ∧ τ = ([.cells 0 (cellsGTree a0)] : Store)) ?_ ?_
 · refine zQ (b := (((decide (1 ≤ a0.fKind)) && (decide (a0.fKind ≤ 3))) && (decide (a0.fN = 0)))) 16 rfl (fun hg16 => ?_) (fun hg16 => ?_)
   · refine za tok 4 ?_
     simp only [go_sem, qb, qa, qd]
     refine zb ⟨rfl, _, _, ⟨rfl, rfl⟩, .b hg16⟩
   refine za tok 4 ?_
   simp only [go_sem, qb, qa]
   refine zb ⟨rfl, _, _, ⟨rfl, rfl⟩, .b hg16⟩
 rintro _ _ ⟨rfl, rfl⟩
 refine za tok 1 ?_
 simp only [go_sem, qb, qa]
 refine zn 5 (fun L τ => L = [(1, .op 0 0 0), (26, .bool (((((decide (1 ≤ a0.fKind)) && (decide (a0.fKind ≤ 3))) && (decide (a0.fN = 0))) && (decide (a0.fS = []))) && (decide ((qc a0.fEntries : Int) = 0))))] ∧ τ = ([.cells 0 (cellsGTree a0)] : Store)) ?_ ?_
 · refine zQ (b := ((((decide (1 ≤ a0.fKind)) && (decide (a0.fKind ≤ 3))) && (decide (a0.fN = 0))) && (decide (a0.fS = [])))) 21 rfl (fun hg21 => ?_) (fun hg21 => ?_)
   · refine za tok 5 ?_
     simp only [go_sem, qb, qa, qd]
     refine zb ⟨rfl, _, _, ⟨rfl, rfl⟩, .b hg21⟩
   refine za tok 5 ?_
   simp only [go_sem, qb, qa]
   refine zb ⟨rfl, _, _, ⟨rfl, rfl⟩, .b hg21⟩
 rintro _ _ ⟨rfl, rfl⟩
 refine za tok 1 ?_
 simp only [go_sem, qb, qa]
 refine zn 5 (fun L τ => L = [(32, .bool ((((((decide (1 ≤ a0.fKind)) && (decide (a0.fKind ≤ 3))) && (decide (a0.fN = 0))) && (decide (a0.fS = []))) && (decide ((qc a0.fEntries : Int) = 0))) && (decide ((qc a0.fRest : Int) = 0))))] ∧ τ = ([.cells 0 (cellsGTree a0)] : Store)) ?_ ?_
 · refine zQ (b := (((((decide (1 ≤ a0.fKind)) && (decide (a0.fKind ≤ 3))) && (decide (a0.fN = 0))) && (decide (a0.fS = []))) && (decide ((qc a0.fEntries : Int) = 0)))) 27 rfl (fun hg27 => ?_) (fun hg27 => ?_)
   · refine za tok 5 ?_
     simp only [go_sem, qb, qa, qd]
     refine zb ⟨rfl, _, _, ⟨rfl, rfl⟩, .b hg27⟩
   refine za tok 5 ?_
   simp only [go_sem, qb, qa]
   refine zb ⟨rfl, _, _, ⟨rfl, rfl⟩, .b hg27⟩
 rintro _ _ ⟨rfl, rfl⟩
 refine za tok 1 ?_
 simp only [go_sem, qb]
 refine zb ?_
 simp only [zd, upd, qa, reduceIte, zk, zo]
 apply hK
 refine zi ?_
 obtain rfl := h
 exact yy
theorem wK.ev (a0 : GTree) (r : Bool) (h : wK a0 = r) (σ : Store) : ACalls qh 86 [.agg (cellsGTree a0)] σ (fun r' σ' => r' = .bool r ∧ σ' = σ) :=
 (wK.ok a0 r h).c σ
def zP.l28 (yv : GTree → GTree → Option Bool) (x11 : Int) (rec13 : Int → Option Bool) (y19 : GEntry) : List GTree → Int → Option Bool
 | [], x26 => (rec13 (x11 + 1))
 | y28 :: q28, x26 => (wW y19.fTrees x26).bind fun y34 => (yv y28 y34).bind fun r37 => (if (!r37) = true then some false else ((zP.l28 yv x11 rec13 y19 q28) (x26 + 1)))
def zP.l13 (yv : GTree → GTree → Option Bool) (a1 : GTree) : List GEntry → Int → Option Bool
 | [], x11 => some true
 | y13 :: q13, x11 => (wW a1.fEntries x11).bind fun y19 => (if ((!(decide (y13.fTag = y19.fTag))) || (!(decide ((qc y13.fTrees : Int) = (qc y19.fTrees : Int))))) = true then some false else (zP.l28 yv x11 (zP.l13 yv a1 q13) y19 y13.fTrees 0))
def zP.l8 (yv : GTree → GTree → Option Bool) (a0 : GTree) (a1 : GTree) : List GRaw → Int → Option Bool
 | [], x6 => (zP.l13 yv a1 a0.fEntries 0)
 | y8 :: q8, x6 => (wW a1.fRest x6).bind fun y43 => (if (!(decide (y8.fTag = y43.fTag) && (decide (y8.fWire = y43.fWire) && (decide (y8.fN = y43.fN) && decide (y8.fB = y43.fB))))) = true then some false else ((zP.l8 yv a0 a1 q8) (x6 + 1)))
def zP.body (yv : GTree → GTree → Option Bool) (a0 : GTree) (a1 : GTree) : Option Bool :=
 (if (((((!(decide (a0.fKind = a1.fKind))) || (!(decide (a0.fN = a1.fN)))) || (!(decide (a0.fS = a1.fS)))) || (!(decide ((qc a0.fEntries : Int) = (qc a1.fEntries : Int))))) || (!(decide ((qc a0.fRest : Int) = (qc a1.fRest : Int))))) = true then some false else (zP.l8 yv a0 a1 a0.fRest 0))
theorem zP.step (yv : GTree → GTree → Option Bool) (ih_ref09_Same : ∀ (a0 : GTree) (a1 : GTree) (r : Bool), yv a0 a1 = some r → ACalls qh 20 [.agg (cellsGTree a0), .agg (cellsGTree a1)] [] (fun r' _ => r' = .bool r)) (a0 : GTree) (a1 : GTree) (r : Bool) (h : zP.body yv a0 a1 = some r) : ACalls qh 20 [.agg (cellsGTree a0), .agg (cellsGTree a1)] [] (fun r' _ => r' = .bool r) := by
 have ev_ref09_Same := fun a0 a1 r h σ => (ih_ref09_Same a0 a1 r h).c σ
 refine zm (rs := [.tmp 4]) tok Tryz.func20 rfl Tryz.ntmps20 rfl Tryz.call20 (by simp) ?_
 refine zq [(0, .agg (cellsGTree a0)), (1, .agg (cellsGTree a1))] ⟨rfl, rfl, trivial⟩ ?_
 unfold zP.body at h
 refine rg tok [2, 3] fun K hK => ?_
 simp only [go_sem, qb, qa, qd, reduceCtorEq, cellsGTree]
 apply hK
 refine ze fun Z1 hZ1 => ?_
 refine rc [2, 3, 46] fun K hK => ?_
 refine za tok 6 ?_
 simp only [go_sem, qb, qa, qd]
 refine zn 6 (fun L τ => L = [(2, .op 0 0 0), (3, .op 1 0 0), (21, .bool ((!(decide (a0.fKind = a1.fKind))) || (!(decide (a0.fN = a1.fN)))))] ∧ τ = ([.cells 0 (cellsGTree a0), .cells 0 (cellsGTree a1)] : Store)) ?_ ?_
 · refine yH 15 rfl (fun hg15 => ?_) (fun hg15 => ?_)
   · have t2 := eq_false hg15
     refine za tok 6 ?_
     simp only [go_sem, qb, qa]
     refine zb ⟨rfl, _, _, ⟨rfl, rfl⟩, .p t2⟩
   have t3 := eq_true hg15
   refine za tok 6 ?_
   simp only [go_sem, qb, qa, qd]
   refine zb ⟨rfl, _, _, ⟨rfl, rfl⟩, .p t3⟩
 rintro _ _ ⟨rfl, rfl⟩
 refine za tok 1 ?_
 simp only [go_sem, qb, qa]
 refine zn 6 (fun L τ => L = [(2, .op 0 0 0), (3, .op 1 0 0), (28, .bool (((!(decide (a0.fKind = a1.fKind))) || (!(decide (a0.fN = a1.fN)))) || (!(decide (a0.fS = a1.fS)))))] ∧ τ = ([.cells 0 (cellsGTree a0), .cells 0 (cellsGTree a1)] : Store)) ?_ ?_
 · refine zQ (b := ((!(decide (a0.fKind = a1.fKind))) || (!(decide (a0.fN = a1.fN))))) 22 rfl (fun hg22 => ?_) (fun hg22 => ?_)
   · refine za tok 6 ?_
     simp only [go_sem, qb, qa]
     refine zb ⟨rfl, _, _, ⟨rfl, rfl⟩, .b hg22⟩
   refine za tok 6 ?_
   simp only [go_sem, qb, qa, qd]
   refine zb ⟨rfl, _, _, ⟨rfl, rfl⟩, .b hg22⟩
 rintro _ _ ⟨rfl, rfl⟩
 refine za tok 1 ?_
 simp only [go_sem, qb, qa]
 refine zn 8 (fun L τ => L = [(2, .op 0 0 0), (3, .op 1 0 0), (37, .bool ((((!(decide (a0.fKind = a1.fKind))) || (!(decide (a0.fN = a1.fN)))) || (!(decide (a0.fS = a1.fS)))) || (!(decide ((qc a0.fEntries : Int) = (qc a1.fEntries : Int))))))] ∧ τ = ([.cells 0 (cellsGTree a0), .cells 0 (cellsGTree a1)] : Store)) ?_ ?_
 · refine zQ (b := (((!(decide (a0.fKind = a1.fKind))) || (!(decide (a0.fN = a1.fN)))) || (!(decide (a0.fS = a1.fS))))) 29 rfl (fun hg29 => ?_) (fun hg29 => ?_)
   · refine za tok 8 ?_
     simp only [go_sem, qb, qa]
     refine zb ⟨rfl, _, _, ⟨rfl, rfl⟩, .b hg29⟩
   refine za tok 8 ?_
   simp only [go_sem, qb, qa, qd]
   refine zb ⟨rfl, _, _, ⟨rfl, rfl⟩, .b hg29⟩
 rintro _ _ ⟨rfl, rfl⟩
 refine za tok 1 ?_
 simp only [go_sem, qb, qa]
 refine zn 8 (fun L τ => L = [(2, .op 0 0 0), (3, .op 1 0 0), (46, .bool (((((!(decide (a0.fKind = a1.fKind))) || (!(decide (a0.fN = a1.fN)))) || (!(decide (a0.fS = a1.fS)))) || (!(decide ((qc a0.fEntries : Int) = (qc a1.fEntries : Int))))) || (!(decide ((qc a0.fRest : Int) = (qc a1.fRest : Int))))))] ∧ τ = ([.cells 0 (cellsGTree a0), .cells 0 (cellsGTree a1)] : Store)) ?_ ?_
 · refine zQ (b := ((((!(decide (a0.fKind = a1.fKind))) || (!(decide (a0.fN = a1.fN)))) || (!(decide (a0.fS = a1.fS)))) || (!(decide ((qc a0.fEntries : Int) = (qc a1.fEntries : Int)))))) 38 rfl (fun hg38 => ?_) (fun hg38 => ?_)
   · refine za tok 8 ?_
     simp only [go_sem, qb, qa]
     refine zb ⟨rfl, _, _, ⟨rfl, rfl⟩, .b hg38⟩
   refine za tok 8 ?_
   simp only [go_sem, qb, qa, qd]
   refine zb ⟨rfl, _, _, ⟨rfl, rfl⟩, .b hg38⟩
 rintro _ _ ⟨rfl, rfl⟩
 refine zb ?_
 simp only [zd, qa, reduceIte, zk, zo]
 apply hK
 refine zt (b := (((((!(decide (a0.fKind = a1.fKind))) || (!(decide (a0.fN = a1.fN)))) || (!(decide (a0.fS = a1.fS)))) || (!(decide ((qc a0.fEntries : Int) = (qc a1.fEntries : Int))))) || (!(decide ((qc a0.fRest : Int) = (qc a1.fRest : Int)))))) rfl (fun hc4 => ?_) (fun hc4 => ?_)
 · rw [if_pos hc4] at h
   refine rg tok [4] fun K hK => ?_
   simp only [go_sem, qb, qa]
   apply hK
   refine zi ?_
   obtain rfl := Option.some.inj h
   exact yy
 rw [xK hc4] at h
 refine zf ?_
 apply hZ1
 refine ze fun Z5 hZ5 => ?_
 refine rg tok [2, 3, 5] fun K hK => ?_
 simp only [go_sem, qb, qa]
 apply hK
 refine zj ?_
 refine xz 0 rfl fun hb8 => ?_
 replace hb8 : qc a0.fRest ≤ 9223372036854775807 := hb8.2.2.2.2.1.1
 refine zB (fun m L τ => ∃ (p8 q8 : List GRaw) (x6 : Int), m = qc q8 ∧ L = [(2, .op 0 0 0), (3, .op 1 0 0), (5, .int .i64 x6)] ∧ τ = ([.cells 0 (cellsGTree a0), .cells 0 (cellsGTree a1)] : Store) ∧ a0.fRest = p8 ++ q8 ∧ x6 = (qc p8 : Int) ∧ zP.l8 yv a0 a1 q8 x6 = some r) _ ⟨[], a0.fRest, 0, rfl, rfl, rfl, rfl, rfl, h⟩ .s ?_
 rintro m L τ ⟨p8, q8, x6, rfl, rfl, rfl, hE8, hi8, h⟩
 rcases q8 with _ | ⟨y8, q8⟩
 · have hz8 := yC hE8 hi8
   simp only [zP.l8] at h
   refine ze fun Z9 hZ9 => ?_
   refine rg tok [2, 3, 5, 51] fun K hK => ?_
   simp only [go_sem, qb, qa, qd, hz8]
   apply hK
   refine zx rfl ?_
   refine zJ ?_
   apply hZ5
   refine ze fun Z10 hZ10 => ?_
   refine rg tok [2, 3, 6] fun K hK => ?_
   simp only [go_sem, qb, qa]
   apply hK
   refine zj ?_
   refine xz 0 rfl fun hb13 => ?_
   replace hb13 : qc a0.fEntries ≤ 9223372036854775807 := hb13.2.2.2.1.1
   refine zB (fun m L τ => ∃ (p13 q13 : List GEntry) (x11 : Int), m = qc q13 ∧ L = [(2, .op 0 0 0), (3, .op 1 0 0), (6, .int .i64 x11)] ∧ τ = ([.cells 0 (cellsGTree a0), .cells 0 (cellsGTree a1)] : Store) ∧ a0.fEntries = p13 ++ q13 ∧ x11 = (qc p13 : Int) ∧ zP.l13 yv a1 q13 x11 = some r) _ ⟨[], a0.fEntries, 0, rfl, rfl, rfl, rfl, rfl, h⟩ .s ?_
   rintro m L τ ⟨p13, q13, x11, rfl, rfl, rfl, hE13, hi13, h⟩
   rcases q13 with _ | ⟨y13, q13⟩
   · have hz13 := yC hE13 hi13
     simp only [zP.l13] at h
     refine ze fun Z14 hZ14 => ?_
     refine rg tok [2, 3, 6, 69] fun K hK => ?_
     simp only [go_sem, qb, qa, qd, hz13]
     apply hK
     refine zx rfl ?_
     refine zJ ?_
     apply hZ10
     refine rg tok [4] fun K hK => ?_
     simp only [go_sem, qb, qa]
     apply hK
     refine zi ?_
     obtain rfl := Option.some.inj h
     exact yy
   obtain ⟨hz13, hw13, hx13, hE'13, hi'13⟩ := ye hE13 hi13 hb13
   simp only [zP.l13] at h
   refine ze fun Z15 hZ15 => ?_
   refine rg tok [2, 3, 6, 69] fun K hK => ?_
   simp only [go_sem, qb, qa, qd, hz13]
   apply hK
   refine zA rfl ?_
   refine zf ?_
   apply hZ15
   refine ze fun Z16 hZ16 => ?_
   refine zj ?_
   have f17 := E27.idxS hx13
   have f18 := E27.loadS rfl rfl hx13
   obtain ⟨y19, hy19, h⟩ := bind_some h
   have f20 := E27.idxS hy19
   have f21 := E27.loadS rfl rfl hy19
   refine rd [2, 3, 6, 7, 8] fun K hK => ?_
   refine DW.start (T := tab) [.any, .own 2 [], .any, .any, .own 2 [], .any, .own 3 [], .any, .any, .own 3 [], .eff, .flt, .eff, .eff] [(2, []), (3, [])] ?_
   refine DW.runN tok 8 ?_
   simp only [go_sem, qb, qa, qd, cellsGEntry, yo, f17, f18]
   refine DW.runN tok 6 ?_
   simp only [go_sem, qb, qe, qa, qd, cellsGEntry, yo, f20, f21]
   refine DW.fin tok (by decide +kernel) rfl ?_
   simp only [zd, upd, qa, reduceIte, zk, zo]
   apply hK
   refine ze fun Z22 hZ22 => ?_
   refine rc [2, 3, 6, 7, 8, 95] fun K hK => ?_
   refine za tok 6 ?_
   simp only [go_sem, qb, qa, qd]
   refine zn 8 (fun L τ => L = [(2, .op 0 0 0), (3, .op 1 0 0), (6, .int .i64 x11), (7, .op 2 0 0), (8, .op 3 0 0), (95, .bool ((!(decide (y13.fTag = y19.fTag))) || (!(decide ((qc y13.fTrees : Int) = (qc y19.fTrees : Int))))))] ∧ τ = ([.cells 0 (cellsGTree a0), .cells 0 (cellsGTree a1), .cells 0 (cellsGEntry y13), .cells 0 (cellsGEntry y19)] : Store)) ?_ ?_
   · refine yH 87 rfl (fun hg87 => ?_) (fun hg87 => ?_)
     · have t23 := eq_false hg87
       refine za tok 8 ?_
       simp only [go_sem, qb, qa]
       refine zb ⟨rfl, _, _, ⟨rfl, rfl⟩, .p t23⟩
     have t24 := eq_true hg87
     refine za tok 8 ?_
     simp only [go_sem, qb, qa, qd]
     refine zb ⟨rfl, _, _, ⟨rfl, rfl⟩, .p t24⟩
   rintro _ _ ⟨rfl, rfl⟩
   refine zb ?_
   simp only [zd, qa, reduceIte, zk, zo]
   apply hK
   refine zt (b := ((!(decide (y13.fTag = y19.fTag))) || (!(decide ((qc y13.fTrees : Int) = (qc y19.fTrees : Int)))))) rfl (fun hc25 => ?_) (fun hc25 => ?_)
   · rw [if_pos hc25] at h
     refine rg tok [4] fun K hK => ?_
     simp only [go_sem, qb, qa]
     apply hK
     refine zi ?_
     obtain rfl := Option.some.inj h
     exact yy
   rw [xK hc25] at h
   refine zf ?_
   apply hZ22
   refine rg tok [2, 3, 6, 7, 8, 9] fun K hK => ?_
   simp only [go_sem, qb, qa]
   apply hK
   refine zj ?_
   refine xz 2 rfl fun hb28 => ?_
   replace hb28 : qc y13.fTrees ≤ 9223372036854775807 := hb28.2.1.1
   refine zB (fun m L τ => ∃ (p28 q28 : List GTree) (x26 : Int), m = qc q28 ∧ L = [(2, .op 0 0 0), (3, .op 1 0 0), (6, .int .i64 x11), (7, .op 2 0 0), (8, .op 3 0 0), (9, .int .i64 x26)] ∧ τ = ([.cells 0 (cellsGTree a0), .cells 0 (cellsGTree a1), .cells 0 (cellsGEntry y13), .cells 0 (cellsGEntry y19)] : Store) ∧ y13.fTrees = p28 ++ q28 ∧ x26 = (qc p28 : Int) ∧ zP.l28 yv x11 (zP.l13 yv a1 q13) y19 q28 x26 = some r) _ ⟨[], y13.fTrees, 0, rfl, rfl, rfl, rfl, rfl, h⟩ .s ?_
   rintro m L τ ⟨p28, q28, x26, rfl, rfl, rfl, hE28, hi28, h⟩
   rcases q28 with _ | ⟨y28, q28⟩
   · have hz28 := yC hE28 hi28
     simp only [zP.l28] at h
     refine ze fun Z29 hZ29 => ?_
     refine rg tok [2, 3, 6, 7, 8, 9, 100] fun K hK => ?_
     simp only [go_sem, qb, qa, qd, hz28]
     apply hK
     refine zx rfl ?_
     refine zJ ?_
     apply hZ16
     refine rgE tok [2, 3, 6] fun K hK => ?_
     simp only [go_sem, qb, qa, hw13]
     apply hK
     exact ⟨_, _, _, qw q13.length, ⟨p13 ++ [y13], q13, x11 + 1, rfl, rfl, rfl, hE'13, hi'13, h⟩, (.t [0, 1] false)⟩
   obtain ⟨hz28, hw28, hx28, hE'28, hi'28⟩ := ye hE28 hi28 hb28
   simp only [zP.l28] at h
   refine ze fun Z30 hZ30 => ?_
   refine rg tok [2, 3, 6, 7, 8, 9, 100] fun K hK => ?_
   simp only [go_sem, qb, qa, qd, hz28]
   apply hK
   refine zA rfl ?_
   refine zf ?_
   apply hZ30
   refine ze fun Z31 hZ31 => ?_
   refine zj ?_
   have f32 := E90.idxS hx28
   have f33 := E90.loadS rfl rfl hx28
   obtain ⟨y34, hy34, h⟩ := bind_some h
   have f35 := E90.idxS hy34
   have f36 := E90.loadS rfl rfl hy34
   obtain ⟨r37, hr37, h⟩ := bind_some h
   refine rd [2, 3, 6, 7, 8, 9, 114] fun K hK => ?_
   refine DW.start (T := tab) [.any, .at [], .any, .any, .at [], .any, .at [], .any, .any, .at [], .eff, .any] [] ?_
   refine DW.runN tok 8 ?_
   simp only [go_sem, qb, qa, qd, cellsGTree, yp, f32, f33]
   refine DW.runN tok 2 ?_
   simp only [go_sem, qb, qa, cellsGTree, yp, f35, f36]
   refine DW.call rfl rfl rfl (ev_ref09_Same y28 y34 r37 hr37 _) ?_
   refine DW.runN tok 1 ?_
   simp only [go_sem, qb, qa]
   refine DW.fin tok (by decide +kernel) rfl ?_
   simp only [zd, upd, qa, reduceIte, zk, zo]
   apply hK
   refine zt (b := (!r37)) rfl (fun hc38 => ?_) (fun hc38 => ?_)
   · rw [if_pos hc38] at h
     refine rg tok [4] fun K hK => ?_
     simp only [go_sem, qb, qa]
     apply hK
     refine zi ?_
     obtain rfl := Option.some.inj h
     exact yy
   rw [xK hc38] at h
   refine zf ?_
   apply hZ31
   refine rgE tok [2, 3, 6, 7, 8, 9] fun K hK => ?_
   simp only [go_sem, qb, qa, hw28]
   apply hK
   exact ⟨_, _, _, qw q28.length, ⟨p28 ++ [y28], q28, x26 + 1, rfl, rfl, rfl, hE'28, hi'28, h⟩, .s⟩
 obtain ⟨hz8, hw8, hx8, hE'8, hi'8⟩ := ye hE8 hi8 hb8
 simp only [zP.l8] at h
 refine ze fun Z39 hZ39 => ?_
 refine rg tok [2, 3, 5, 51] fun K hK => ?_
 simp only [go_sem, qb, qa, qd, hz8]
 apply hK
 refine zA rfl ?_
 refine zf ?_
 apply hZ39
 refine ze fun Z40 hZ40 => ?_
 refine zj ?_
 have f41 := E28.idxS hx8
 have f42 := E28.loadS rfl rfl hx8
 obtain ⟨y43, hy43, h⟩ := bind_some h
 have f44 := E28.idxS hy43
 have f45 := E28.loadS rfl rfl hy43
 refine rd [2, 3, 5, 64] fun K hK => ?_
 refine DW.start (T := tab) [.any, .at [], .any, .any, .at [], .any, .at [], .any, .any, .at [], .any] [] ?_
 refine DW.runN tok 8 ?_
 simp only [go_sem, qb, qa, qd, encGRaw, f41, f42]
 refine DW.runN tok 3 ?_
 simp only [go_sem, qb, qa, encGRaw, f44, f45, evEqA, ceqL, ceq]
 refine DW.fin tok (by decide +kernel) rfl ?_
 simp only [zd, upd, qa, reduceIte, zk, zo]
 apply hK
 refine zt (b := (!(decide (y8.fTag = y43.fTag) && (decide (y8.fWire = y43.fWire) && (decide (y8.fN = y43.fN) && decide (y8.fB = y43.fB)))))) rfl (fun hc46 => ?_) (fun hc46 => ?_)
 · rw [if_pos hc46] at h
   refine rg tok [4] fun K hK => ?_
   simp only [go_sem, qb, qa]
   apply hK
   refine zi ?_
   obtain rfl := Option.some.inj h
   exact yy
 rw [xK hc46] at h
 refine zf ?_
 apply hZ40
 refine rgE tok [2, 3, 5] fun K hK => ?_
 simp only [go_sem, qb, qa, hw8]
 apply hK
 exact ⟨_, _, _, qw q8.length, ⟨p8 ++ [y8], q8, x6 + 1, rfl, rfl, rfl, hE'8, hi'8, h⟩, .s⟩
def zP : Nat → GTree → GTree → Option Bool
 | 0, _, _ => none
 | k + 1, a0, a1 => zP.body (zP k) a0 a1
theorem zP.all (k : Nat) : (∀ (a0 : GTree) (a1 : GTree) (r : Bool), zP k a0 a1 = some r → ACalls qh 20 [.agg (cellsGTree a0), .agg (cellsGTree a1)] [] (fun r' _ => r' = .bool r)) := by
 induction k with
 | zero => exact (fun a0 a1 r h => by simp only [zP] at h; cases h)
 | succ k ih => exact (fun a0 a1 r h => zP.step _ ih a0 a1 r (by simpa only [zP] using h))
theorem zP.ev (k : Nat) (a0 : GTree) (a1 : GTree) (r : Bool) (h : zP k a0 a1 = some r) (σ : Store) : ACalls qh 20 [.agg (cellsGTree a0), .agg (cellsGTree a1)] σ (fun r' σ' => r' = .bool r ∧ σ' = σ) :=
 ((zP.all k) a0 a1 r h).c σ
def xf.j3 (x2 : Int) : Option Int :=
 some x2
def xf (a0 : Int) (a1 : Int) : Option Int :=
 (grd (a1 ≠ 0)).bind fun _u1 => (if (a0).tmod a1 < 0 then (xf.j3 (IntKind.i64.wrap ((a0).tmod a1 + a1))) else (xf.j3 ((a0).tmod a1)))
theorem xf.ok (a0 : Int) (a1 : Int) (r : Int) (h : xf a0 a1 = some r) : ACalls qh 22 [.int .i64 a0, .int .i64 a1] [] (fun r' _ => r' = .int .i64 r) := by
 refine zm (rs := [.tmp 4]) tok Tryz.func22 rfl Tryz.ntmps22 rfl Tryz.call22 (by simp) ?_
 refine zq [(0, .int .i64 a0), (1, .int .i64 a1)] ⟨rfl, rfl, trivial⟩ ?_
 unfold xf at h
 refine rg tok [0, 1] fun K hK => ?_
 simp only [go_sem, qb, qa, reduceCtorEq]
 apply hK
 obtain ⟨_u1, hu1, h⟩ := bind_some h
 have gu1 := wE hu1
 have gu1f := eq_false gu1
 refine rg tok [1, 5] fun K hK => ?_
 simp only [go_sem, qb, qa, reduceCtorEq, gu1f]
 apply hK
 refine xN (fun L τ => ∃ (x2 : Int), L = [(5, .int .i64 x2)] ∧ τ = ([] : Store) ∧ xf.j3 x2 = some r) ?_ ?_
 · refine rg tok [1, 5, 10] fun K hK => ?_
   simp only [go_sem, qb, qa]
   apply hK
   refine zI rfl (fun hc4 => ?_) (fun hc4 => ?_)
   · rw [if_pos hc4] at h
     have t5 := eq_true hc4
     refine rgE tok [5] fun K hK => ?_
     simp only [go_sem, qb, qa, t5]
     apply hK
     exact ⟨_, _, ⟨IntKind.i64.wrap ((a0).tmod a1 + a1), rfl, rfl, h⟩, .s⟩
   rw [if_neg hc4] at h
   have t6 := eq_false hc4
   refine zf ?_
   exact ⟨_, _, ⟨(a0).tmod a1, rfl, rfl, h⟩, .s⟩
 rintro _ _ ⟨x2, rfl, rfl, h⟩
 unfold xf.j3 at h
 refine rg tok [4] fun K hK => ?_
 simp only [go_sem, qb, qa]
 apply hK
 refine zi ?_
 obtain rfl := Option.some.inj h
 exact yy
theorem xf.ev (a0 : Int) (a1 : Int) (r : Int) (h : xf a0 a1 = some r) (σ : Store) : ACalls qh 22 [.int .i64 a0, .int .i64 a1] σ (fun r' σ' => r' = .int .i64 r ∧ σ' = σ) :=
 (xf.ok a0 a1 r h).c σ
def wd (a0 : List Int) (a1 : Int) : Option (Int × Int) :=
 (if (qc a0 : Int) = 0 then some (0, a1) else (grd ((qc a0 : Int) ≠ 0)).bind fun _u5 => (xf (IntKind.i64.wrap ((IntKind.i64.wrap ((IntKind.i64.wrap (a1 + 1)) * 7)) + (IntKind.i64.wrap ((IntKind.i64.wrap (a1 + 1)).tdiv (qc a0 : Int))))) (qc a0 : Int)).bind fun r6 => (wW a0 r6).bind fun y7 => some (IntKind.i64.wrap ((uk (qy 64 y7 &&& qy 64 4611686018427387903) : Nat) : Int), IntKind.i64.wrap (a1 + 1)))
theorem wd.ok (a0 : List Int) (a1 : Int) (r : Int × Int) (h : wd a0 a1 = some r) : ACalls qh 84 [.ds true (qf encI a0) (qc a0) false, .op 0 0 0] [.cells 0 [.int .i64 a1]] (fun r' σ' => r' = .int .i64 r.1 ∧ σ' = [.cells 0 [.int .i64 r.2]]) := by
 refine Yz [0] (rs := [.tmp 4]) tok Tryz.func84 rfl Tryz.ntmps84 rfl Tryz.call84 (by simp) rfl ?_
 refine zq [(0, .ds true (qf encI a0) (qc a0) false), (1, .op 0 0 0)] ⟨rfl, rfl, trivial⟩ ?_
 unfold wd at h
 refine rg tok [0, 1] fun K hK => ?_
 simp only [go_sem, qb, qa, reduceCtorEq]
 apply hK
 refine ze fun Z1 hZ1 => ?_
 refine rg tok [0, 1, 7] fun K hK => ?_
 simp only [go_sem, qb, qa, reduceCtorEq]
 apply hK
 refine zI rfl (fun hc2 => ?_) (fun hc2 => ?_)
 · rw [if_pos hc2] at h
   have t3 := eq_true hc2
   refine rg tok [4] fun K hK => ?_
   simp only [go_sem, qb, qa, reduceCtorEq, t3]
   apply hK
   refine zi ?_
   obtain rfl := Option.some.inj h
   simp only [Zl, yP, y1, xJ, exists_eq_left', go_sem]
   refine ⟨by decide, by simp, ?_, ?_⟩
   · first | rfl | (simp only [go_sem, qb, qe, qa, qd, qs, qF, reduceIte, reduceCtorEq, push_cast, if_true, qz, qn, qD, qv, qE, qJ, qR, qO, qL, qI, qx, zF] <;> rfl)
   first | rfl | (simp only [go_sem, qb, qe, qa, qd, qs, qF, reduceIte, reduceCtorEq, push_cast, if_true, qz, qn, qD, qv, qE, qJ, qR, qO, qL, qI, qx, zF] <;> rfl)
 rw [if_neg hc2] at h
 have t4 := eq_false hc2
 refine zf ?_
 apply hZ1
 refine rg tok [0, 1] fun K hK => ?_
 simp only [go_sem, qb, qe, qa, reduceCtorEq, t4]
 apply hK
 obtain ⟨_u5, hu5, h⟩ := bind_some h
 have gu5 := wE hu5
 have gu5f := eq_false gu5
 obtain ⟨r6, hr6, h⟩ := bind_some h
 obtain ⟨y7, hy7, h⟩ := bind_some h
 have f8 := E45.idxS hy7
 have f9 := E45.fldS0 (f := 3) rfl rfl hy7
 refine rd [4] fun K hK => ?_
 refine DW.start (T := tab) [.any, .any, .any, .at [], .any, .any, .any, .at [], .any, .at [], .any, .any, .any, .at [], .eff, .any, .at [], .any, .any] [] ?_
 refine DW.runN tok 8 ?_
 simp only [go_sem, qb, qa, reduceCtorEq]
 refine DW.runN tok 6 ?_
 simp only [go_sem, qb, qa, reduceCtorEq, t4]
 refine DW.call rfl rfl rfl (xf.ev (IntKind.i64.wrap ((IntKind.i64.wrap ((IntKind.i64.wrap (a1 + 1)) * 7)) + (IntKind.i64.wrap ((IntKind.i64.wrap (a1 + 1)).tdiv (qc a0 : Int))))) (qc a0 : Int) r6 hr6 _) ?_
 refine DW.runN tok 4 ?_
 simp only [go_sem, qb, qa, reduceCtorEq, encI, f8, f9]
 refine DW.fin tok (by decide +kernel) rfl ?_
 simp only [zd, upd, qa, reduceIte, zk, zo]
 apply hK
 refine zi ?_
 obtain rfl := Option.some.inj h
 simp only [Zl, yP, y1, xJ, exists_eq_left', go_sem]
 refine ⟨by decide, by simp, ?_, ?_⟩
 · first | rfl | (simp only [go_sem, qb, qe, qa, qd, qs, qF, reduceIte, reduceCtorEq, push_cast, if_true, qz, qn, qD, qv, qE, qJ, qR, qO, qL, qI, qx, zF] <;> rfl)
 first | rfl | (simp only [go_sem, qb, qe, qa, qd, qs, qF, reduceIte, reduceCtorEq, push_cast, if_true, qz, qn, qD, qv, qE, qJ, qR, qO, qL, qI, qx, zF] <;> rfl)
def zz.j19 (x6 : Int) (rec11 : Int → List GEntry → Int → Option (GTree × Int)) (m0_16 : Int) (l17 : List GEntry) : Option (GTree × Int) :=
 (rec11 m0_16 l17 (IntKind.i64.wrap (x6 + 1)))
def zz.j46 (x34 : Int) (rec39 : Int → List GTree → Int → Option (GTree × Int)) (m0_43 : Int) (l44 : List GTree) : Option (GTree × Int) :=
 (rec39 m0_43 l44 (IntKind.i64.wrap (x34 + 1)))
def zz.l39 (zT : GSchema → GField → (List Int) → Int → Int → Option (GTree × Int)) (a0 : GSchema) (a2 : List Int) (a4 : Int) (l4 : List GEntry) (x6 : Int) (rec11 : Int → List GEntry → Int → Option (GTree × Int)) (r20 : GField × Bool) (x28 : Int) : Nat → Int → List GTree → Int → Option (GTree × Int)
 | 0, _, _, _ => none
 | k39 + 1, m0_31, l32, x34 => (if x34 < x28 then (zT a0 r20.1 a2 m0_31 a4).bind fun r47 => bnd (if r20.1.fLabel = 1 then bnd (wK r47.1) fun r48 => !r48 else true) fun c48 => (if c48 = true then (Yi (qc l32 + 1) 80).bind fun _u53 => (zz.j46 x34 (zz.l39 zT a0 a2 a4 l4 x6 rec11 r20 x28 k39) r47.2 (l32 ++ [r47.1])) else (zz.j46 x34 (zz.l39 zT a0 a2 a4 l4 x6 rec11 r20 x28 k39) r47.2 l32)) else (if 0 < (qc l32 : Int) then (Yi (qc l4 + 1) 32).bind fun _u58 => (zz.j19 x6 rec11 m0_31 (l4 ++ [(⟨x6, l32⟩ : GEntry)])) else (zz.j19 x6 rec11 m0_31 l4)))
def zz.j29 (zT : GSchema → GField → (List Int) → Int → Int → Option (GTree × Int)) (a0 : GSchema) (a2 : List Int) (a4 : Int) (l4 : List GEntry) (x6 : Int) (rec11 : Int → List GEntry → Int → Option (GTree × Int)) (r20 : GField × Bool) (m0_27 : Int) (x28 : Int) : Option (GTree × Int) :=
 (zz.l39 zT a0 a2 a4 l4 x6 rec11 r20 x28 rounds m0_27 ([] : List GTree) 0)
def zz.l11 (zT : GSchema → GField → (List Int) → Int → Int → Option (GTree × Int)) (a0 : GSchema) (a2 : List Int) (a4 : Int) (r1 : GMessage × Bool) : Nat → Int → List GEntry → Int → Option (GTree × Int)
 | 0, _, _, _ => none
 | k11 + 1, m0_3, l4, x6 => (if ((decide (x6 ≤ 500)) && (decide (m0_3 < 150))) = true then bnd (yJ r1.1 x6) fun r20 => (if (!r20.2) = true then some (true, m0_3) else (wd a2 m0_3).bind fun r22 => some (decide ((r22.1).tmod 3 = 0), r22.2)).bind fun c22 => (if (c22.1 || ((decide (r20.1.fType.fKind = 7)) && (decide (5 ≤ a4)))) = true then (zz.j19 x6 (zz.l11 zT a0 a2 a4 r1 k11) c22.2 l4) else (if r20.1.fLabel = 3 then (wd a2 c22.2).bind fun r63 => (zz.j29 zT a0 a2 a4 l4 x6 (zz.l11 zT a0 a2 a4 r1 k11) r20 r63.2 (IntKind.i64.wrap (1 + ((r63.1).tmod 3)))) else (zz.j29 zT a0 a2 a4 l4 x6 (zz.l11 zT a0 a2 a4 r1 k11) r20 c22.2 1))) else some ((⟨3, 0, [], l4, ([] : List GRaw)⟩ : GTree), m0_3))
def zz.body (xl : GSchema → (List UInt8) → (List Int) → Int → Int → Option (GTree × Int)) (zT : GSchema → GField → (List Int) → Int → Int → Option (GTree × Int)) (a0 : GSchema) (a1 : List UInt8) (a2 : List Int) (a3 : Int) (a4 : Int) : Option (GTree × Int) :=
 bnd (yc a0 a1) fun r1 => (zz.l11 zT a0 a2 a4 r1 rounds a3 ([] : List GEntry) 1)
theorem zz.step (xl : GSchema → (List UInt8) → (List Int) → Int → Int → Option (GTree × Int)) (zT : GSchema → GField → (List Int) → Int → Int → Option (GTree × Int)) (van : ∀ (a0 : GSchema) (a1 : List UInt8) (a2 : List Int) (a3 : Int) (a4 : Int) (r : GTree × Int), xl a0 a1 a2 a3 a4 = some r → ACalls qh 48 [.agg (encGSchema a0), .str a1, .ds true (qf encI a2) (qc a2) false, .op 0 0 0, .int .i64 a4] [.cells 0 [.int .i64 a3]] (fun r' σ' => r' = .agg (cellsGTree r.1) ∧ σ' = [.cells 0 [.int .i64 r.2]])) (vam : ∀ (a0 : GSchema) (a1 : GField) (a2 : List Int) (a3 : Int) (a4 : Int) (r : GTree × Int), zT a0 a1 a2 a3 a4 = some r → ACalls qh 85 [.agg (encGSchema a0), .agg (encGField a1), .ds true (qf encI a2) (qc a2) false, .op 0 0 0, .int .i64 a4] [.cells 0 [.int .i64 a3]] (fun r' σ' => r' = .agg (cellsGTree r.1) ∧ σ' = [.cells 0 [.int .i64 r.2]])) (a0 : GSchema) (a1 : List UInt8) (a2 : List Int) (a3 : Int) (a4 : Int) (r : GTree × Int) (h : zz.body xl zT a0 a1 a2 a3 a4 = some r) : ACalls qh 48 [.agg (encGSchema a0), .str a1, .ds true (qf encI a2) (qc a2) false, .op 0 0 0, .int .i64 a4] [.cells 0 [.int .i64 a3]] (fun r' σ' => r' = .agg (cellsGTree r.1) ∧ σ' = [.cells 0 [.int .i64 r.2]]) := by
 refine Yz [0] (rs := [.cell 10 30]) tok Tryz.func48 rfl Tryz.ntmps48 rfl Tryz.call48 (by simp) rfl ?_
 refine zq [(0, .agg (encGSchema a0)), (1, .str a1), (2, .ds true (qf encI a2) (qc a2) false), (3, .op 0 0 0), (4, .int .i64 a4)] ⟨rfl, rfl, rfl, rfl, rfl, trivial⟩ ?_
 unfold zz.body at h
 refine rg tok [1, 2, 3, 4, 5, 10] fun K hK => ?_
 simp only [go_sem, qb, qa, qd, reduceCtorEq, encGSchema]
 apply hK
 refine rg tok [1, 2, 3, 4, 5, 10, 11] fun K hK => ?_
 simp only [go_sem, qb, qe, qa, qd]
 apply hK
 refine wF 3 3 2 rfl (by simp) rfl (L := [(1, .str a1), (2, .ds true (qf encI a2) (qc a2) false), (3, .op 0 0 0), (4, .int .i64 a4), (5, .op 1 0 0), (10, .op 2 0 0), (11, .op 3 0 0)]) (τ := [.cells 0 [.int .i64 a3], .cells 0 (encGSchema a0), .cells 0 [.int .i64 0, .int .i64 0, .str [], .ds true [] 0 true, .ds true [] 0 true], .cells 0 [.int .i64 3, .int .i64 0, .str [], .os true 2 4 0 0 (qc ([] : List GEntry)) false, .ds true [] 0 true], .cells 0 (qf encGEntry ([] : List GEntry))]) .s ?_
 refine rc [2, 3, 4, 5, 10, 11, 12] fun K hK => ?_
 obtain ⟨r1, hr1, h⟩ := zW h
 refine za tok 2 ?_
 simp only [go_sem, qb, qe, qa, qd]
 refine zh rfl rfl rfl (yc.ev a0 a1 r1 hr1 _) ?_
 rintro _ _ ⟨rfl, rfl⟩
 refine za tok 6 ?_
 simp only [go_sem, qb, qe, qa, qd, encGMessage]
 refine zb ?_
 simp only [zd, upd, qa, reduceIte, zk, zo]
 apply hK
 refine ze fun Z2 hZ2 => ?_
 refine rg tok [2, 3, 4, 5, 10, 11, 12, 14] fun K hK => ?_
 simp only [go_sem, qb, qa]
 apply hK
 refine zj ?_
 refine zB (fun m L τ => ∃ (k11 : Nat) (m0_3 : Int) (l4 : List GEntry) (x6 : Int) (v5 : Nat), m = 0 + k11 ∧ L = [(2, .ds true (qf encI a2) (qc a2) false), (3, .op 0 0 0), (4, .int .i64 a4), (5, .op 1 0 0), (10, .op 2 0 0), (11, .op 3 0 0), (12, .op 5 0 0), (14, .int .i64 x6)] ∧ τ = ([.cells 0 [.int .i64 m0_3], .cells 0 (encGSchema a0), .cells 0 [.int .i64 0, .int .i64 0, .str [], .ds true [] 0 true, .ds true [] 0 true], .cells 0 [.int .i64 3, .int .i64 0, .str [], .os true 2 4 v5 0 (qc l4) false, .ds true [] 0 true], .cells v5 (qf encGEntry l4), .cells 0 (encGMessage r1.1)] : Store) ∧ zz.l11 zT a0 a2 a4 r1 k11 m0_3 l4 x6 = some r) _ ⟨rounds, a3, ([] : List GEntry), 1, 0, rfl, rfl, rfl, h⟩ .s ?_
 rintro m L τ ⟨k11, m0_3, l4, x6, v5, rfl, rfl, rfl, h⟩
 rcases k11 with _ | k11
 · cases h
 simp only [zz.l11] at h
 refine ze fun Z12 hZ12 => ?_
 refine rc [2, 3, 4, 5, 10, 11, 12, 14, 35] fun K hK => ?_
 refine za tok 3 ?_
 simp only [go_sem, qb, qa]
 refine zn 5 (fun L τ => L = [(2, .ds true (qf encI a2) (qc a2) false), (3, .op 0 0 0), (4, .int .i64 a4), (5, .op 1 0 0), (10, .op 2 0 0), (11, .op 3 0 0), (12, .op 5 0 0), (14, .int .i64 x6), (35, .bool ((decide (x6 ≤ 500)) && (decide (m0_3 < 150))))] ∧ τ = ([.cells 0 [.int .i64 m0_3], .cells 0 (encGSchema a0), .cells 0 [.int .i64 0, .int .i64 0, .str [], .ds true [] 0 true, .ds true [] 0 true], .cells 0 [.int .i64 3, .int .i64 0, .str [], .os true 2 4 v5 0 (qc l4) false, .ds true [] 0 true], .cells v5 (qf encGEntry l4), .cells 0 (encGMessage r1.1)] : Store)) ?_ ?_
 · refine yH 30 rfl (fun hg30 => ?_) (fun hg30 => ?_)
   · have t13 := eq_true hg30
     refine za tok 5 ?_
     simp only [go_sem, qb, qa]
     refine zb ⟨rfl, _, _, ⟨rfl, rfl⟩, .p t13⟩
   have t14 := eq_false hg30
   refine za tok 5 ?_
   simp only [go_sem, qb, qa]
   refine zb ⟨rfl, _, _, ⟨rfl, rfl⟩, .p t14⟩
 rintro _ _ ⟨rfl, rfl⟩
 refine zb ?_
 simp only [zd, qa, reduceIte, zk, zo]
 apply hK
 refine zt (b := ((decide (x6 ≤ 500)) && (decide (m0_3 < 150)))) rfl (fun hc15 => ?_) (fun hc15 => ?_)
 · rw [if_pos hc15] at h
   refine zf ?_
   apply hZ12
   refine xN (fun L τ => ∃ (m0_16 : Int) (l17 : List GEntry) (v18 : Nat), L = [(2, .ds true (qf encI a2) (qc a2) false), (3, .op 0 0 0), (4, .int .i64 a4), (5, .op 1 0 0), (10, .op 2 0 0), (11, .op 3 0 0), (12, .op 5 0 0), (14, .int .i64 x6)] ∧ τ = ([.cells 0 [.int .i64 m0_16], .cells 0 (encGSchema a0), .cells 0 [.int .i64 0, .int .i64 0, .str [], .ds true [] 0 true, .ds true [] 0 true], .cells 0 [.int .i64 3, .int .i64 0, .str [], .os true 2 4 v18 0 (qc l17) false, .ds true [] 0 true], .cells v18 (qf encGEntry l17), .cells 0 (encGMessage r1.1)] : Store) ∧ zz.j19 x6 (zz.l11 zT a0 a2 a4 r1 k11) m0_16 l17 = some r) ?_ ?_
   · refine zj ?_
     refine rc [2, 3, 4, 5, 10, 11, 12, 14, 15, 16] fun K hK => ?_
     obtain ⟨r20, hr20, h⟩ := zW h
     refine za tok 2 ?_
     simp only [go_sem, qb, qe, qa, qd]
     refine zh rfl rfl rfl (yJ.ev r1.1 x6 r20 hr20 _) ?_
     rintro _ _ ⟨rfl, rfl⟩
     refine za tok 6 ?_
     simp only [go_sem, qb, qe, qa, qd, encGField]
     refine zb ?_
     simp only [zd, upd, qa, reduceIte, zk, zo]
     apply hK
     refine ze fun Z21 hZ21 => ?_
     refine rc [2, 3, 4, 5, 10, 11, 12, 14, 15, 62] fun K hK => ?_
     refine za tok 3 ?_
     simp only [go_sem, qb, qa]
     obtain ⟨c22, hc22, h⟩ := bind_some h
     refine zn 6 (fun L τ => L = [(2, .ds true (qf encI a2) (qc a2) false), (3, .op 0 0 0), (4, .int .i64 a4), (5, .op 1 0 0), (10, .op 2 0 0), (11, .op 3 0 0), (12, .op 5 0 0), (14, .int .i64 x6), (15, .op 6 0 0), (52, .bool c22.1)] ∧ τ = ([.cells 0 [.int .i64 c22.2], .cells 0 (encGSchema a0), .cells 0 [.int .i64 0, .int .i64 0, .str [], .ds true [] 0 true, .ds true [] 0 true], .cells 0 [.int .i64 3, .int .i64 0, .str [], .os true 2 4 v5 0 (qc l4) false, .ds true [] 0 true], .cells v5 (qf encGEntry l4), .cells 0 (encGMessage r1.1), .cells 0 (encGField r20.1)] : Store)) ?_ ?_
     · refine zQ (b := (!r20.2)) 46 rfl (fun hg46 => ?_) (fun hg46 => ?_)
       · rw [if_pos hg46] at hc22
         refine za tok 6 ?_
         simp only [go_sem, qb, qa]
         obtain rfl := Option.some.inj hc22
         refine zb ⟨rfl, _, _, ⟨rfl, rfl⟩, .b hg46⟩
       rw [xK hg46] at hc22
       obtain ⟨r23, hr23, hc22⟩ := bind_some hc22
       refine za tok 2 ?_
       simp only [go_sem, qb, qa]
       refine zh rfl rfl rfl (@id (ACalls qh 84 [.ds true (qf encI a2) (qc a2) false, .op 0 0 0] [.cells 0 [.int .i64 m0_3], .cells 0 (encGSchema a0), .cells 0 [.int .i64 0, .int .i64 0, .str [], .ds true [] 0 true, .ds true [] 0 true], .cells 0 [.int .i64 3, .int .i64 0, .str [], .os true 2 4 v5 0 (qc l4) false, .ds true [] 0 true], .cells v5 (qf encGEntry l4), .cells 0 (encGMessage r1.1), .cells 0 (encGField r20.1)] (fun r' σ' => r' = .int .i64 r23.1 ∧ σ' = [.cells 0 [.int .i64 r23.2], .cells 0 (encGSchema a0), .cells 0 [.int .i64 0, .int .i64 0, .str [], .ds true [] 0 true, .ds true [] 0 true], .cells 0 [.int .i64 3, .int .i64 0, .str [], .os true 2 4 v5 0 (qc l4) false, .ds true [] 0 true], .cells v5 (qf encGEntry l4), .cells 0 (encGMessage r1.1), .cells 0 (encGField r20.1)])) ((wd.ok a2 m0_3 r23 hr23).i [0])) ?_
       rintro _ _ ⟨rfl, rfl⟩
       refine za tok 3 ?_
       simp only [go_sem, qb, qa, Int.reduceEq]
       obtain rfl := Option.some.inj hc22
       refine zb ⟨rfl, _, _, ⟨rfl, rfl⟩, .b hg46⟩
     rintro _ _ ⟨rfl, rfl⟩
     refine za tok 1 ?_
     simp only [go_sem, qb, qa]
     refine zn 9 (fun L τ => L = [(2, .ds true (qf encI a2) (qc a2) false), (3, .op 0 0 0), (4, .int .i64 a4), (5, .op 1 0 0), (10, .op 2 0 0), (11, .op 3 0 0), (12, .op 5 0 0), (14, .int .i64 x6), (15, .op 6 0 0), (62, .bool (c22.1 || ((decide (r20.1.fType.fKind = 7)) && (decide (5 ≤ a4)))))] ∧ τ = ([.cells 0 [.int .i64 c22.2], .cells 0 (encGSchema a0), .cells 0 [.int .i64 0, .int .i64 0, .str [], .ds true [] 0 true, .ds true [] 0 true], .cells 0 [.int .i64 3, .int .i64 0, .str [], .os true 2 4 v5 0 (qc l4) false, .ds true [] 0 true], .cells v5 (qf encGEntry l4), .cells 0 (encGMessage r1.1), .cells 0 (encGField r20.1)] : Store)) ?_ ?_
     · refine zQ (b := c22.1) 53 rfl (fun hg53 => ?_) (fun hg53 => ?_)
       · refine za tok 9 ?_
         simp only [go_sem, qb, qa]
         refine zb ⟨rfl, _, _, ⟨rfl, rfl⟩, .b hg53⟩
       refine za tok 5 ?_
       simp only [go_sem, qb, qa, qd]
       refine zn 3 (fun L τ => L = [(2, .ds true (qf encI a2) (qc a2) false), (3, .op 0 0 0), (4, .int .i64 a4), (5, .op 1 0 0), (10, .op 2 0 0), (11, .op 3 0 0), (12, .op 5 0 0), (14, .int .i64 x6), (15, .op 6 0 0), (53, .bool false), (61, .bool ((decide (r20.1.fType.fKind = 7)) && (decide (5 ≤ a4))))] ∧ τ = ([.cells 0 [.int .i64 c22.2], .cells 0 (encGSchema a0), .cells 0 [.int .i64 0, .int .i64 0, .str [], .ds true [] 0 true, .ds true [] 0 true], .cells 0 [.int .i64 3, .int .i64 0, .str [], .os true 2 4 v5 0 (qc l4) false, .ds true [] 0 true], .cells v5 (qf encGEntry l4), .cells 0 (encGMessage r1.1), .cells 0 (encGField r20.1)] : Store)) ?_ ?_
       · refine yH 58 rfl (fun hg58 => ?_) (fun hg58 => ?_)
         · have t24 := eq_true hg58
           refine za tok 3 ?_
           simp only [go_sem, qb, qa]
           refine zb ⟨rfl, _, _, ⟨rfl, rfl⟩, .p t24⟩
         have t25 := eq_false hg58
         refine za tok 3 ?_
         simp only [go_sem, qb, qa]
         refine zb ⟨rfl, _, _, ⟨rfl, rfl⟩, .p t25⟩
       rintro _ _ ⟨rfl, rfl⟩
       refine za tok 1 ?_
       simp only [go_sem, qb, qa]
       refine zb ⟨rfl, _, _, ⟨rfl, rfl⟩, .b hg53⟩
     rintro _ _ ⟨rfl, rfl⟩
     refine zb ?_
     simp only [zd, qa, reduceIte, zk, zo]
     apply hK
     refine zt (b := (c22.1 || ((decide (r20.1.fType.fKind = 7)) && (decide (5 ≤ a4))))) rfl (fun hc26 => ?_) (fun hc26 => ?_)
     · rw [if_pos hc26] at h
       refine zJ ?_
       exact ⟨_, _, ⟨c22.2, l4, v5, rfl, rfl, h⟩, (.t [0, 1, 2, 3, 4, 5] false)⟩
     rw [xK hc26] at h
     refine zf ?_
     apply hZ21
     refine rg tok [2, 3, 4, 5, 10, 11, 12, 14, 15, 17] fun K hK => ?_
     simp only [go_sem, qb, qa]
     apply hK
     refine xN (fun L τ => ∃ (m0_27 : Int) (x28 : Int), L = [(2, .ds true (qf encI a2) (qc a2) false), (3, .op 0 0 0), (4, .int .i64 a4), (5, .op 1 0 0), (10, .op 2 0 0), (11, .op 3 0 0), (12, .op 5 0 0), (14, .int .i64 x6), (15, .op 6 0 0), (17, .int .i64 x28)] ∧ τ = ([.cells 0 [.int .i64 m0_27], .cells 0 (encGSchema a0), .cells 0 [.int .i64 0, .int .i64 0, .str [], .ds true [] 0 true, .ds true [] 0 true], .cells 0 [.int .i64 3, .int .i64 0, .str [], .os true 2 4 v5 0 (qc l4) false, .ds true [] 0 true], .cells v5 (qf encGEntry l4), .cells 0 (encGMessage r1.1), .cells 0 (encGField r20.1)] : Store) ∧ zz.j29 zT a0 a2 a4 l4 x6 (zz.l11 zT a0 a2 a4 r1 k11) r20 m0_27 x28 = some r) ?_ ?_
     · refine rg tok [2, 3, 4, 5, 10, 11, 12, 14, 15, 17, 65] fun K hK => ?_
       simp only [go_sem, qb, qa, qd]
       apply hK
       refine zI rfl (fun hc61 => ?_) (fun hc61 => ?_)
       · rw [if_pos hc61] at h
         have t62 := eq_true hc61
         refine rcE [2, 3, 4, 5, 10, 11, 12, 14, 15, 17] fun K hK => ?_
         obtain ⟨r63, hr63, h⟩ := bind_some h
         refine za tok 2 ?_
         simp only [go_sem, qb, qa, t62]
         refine zh rfl rfl rfl (@id (ACalls qh 84 [.ds true (qf encI a2) (qc a2) false, .op 0 0 0] [.cells 0 [.int .i64 c22.2], .cells 0 (encGSchema a0), .cells 0 [.int .i64 0, .int .i64 0, .str [], .ds true [] 0 true, .ds true [] 0 true], .cells 0 [.int .i64 3, .int .i64 0, .str [], .os true 2 4 v5 0 (qc l4) false, .ds true [] 0 true], .cells v5 (qf encGEntry l4), .cells 0 (encGMessage r1.1), .cells 0 (encGField r20.1)] (fun r' σ' => r' = .int .i64 r63.1 ∧ σ' = [.cells 0 [.int .i64 r63.2], .cells 0 (encGSchema a0), .cells 0 [.int .i64 0, .int .i64 0, .str [], .ds true [] 0 true, .ds true [] 0 true], .cells 0 [.int .i64 3, .int .i64 0, .str [], .os true 2 4 v5 0 (qc l4) false, .ds true [] 0 true], .cells v5 (qf encGEntry l4), .cells 0 (encGMessage r1.1), .cells 0 (encGField r20.1)])) ((wd.ok a2 c22.2 r63 hr63).i [0])) ?_
         rintro _ _ ⟨rfl, rfl⟩
         refine za tok 3 ?_
         simp only [go_sem, qb, qa, Int.reduceEq]
         refine zb ?_
         simp only [zd, upd, qa, reduceIte, zk, zo]
         apply hK
         exact ⟨_, _, ⟨r63.2, IntKind.i64.wrap (1 + ((r63.1).tmod 3)), rfl, rfl, h⟩, .s⟩
       rw [if_neg hc61] at h
       have t64 := eq_false hc61
       refine zf ?_
       exact ⟨_, _, ⟨c22.2, 1, rfl, rfl, h⟩, .s⟩
     rintro _ _ ⟨m0_27, x28, rfl, rfl, h⟩
     unfold zz.j29 at h
     refine rg tok [2, 3, 4, 5, 10, 11, 12, 14, 15, 17, 18] fun K hK => ?_
     simp only [go_sem, qb, qe, qa, qd]
     apply hK
     refine wF 7 1 5 rfl (by simp) rfl (L := [(2, .ds true (qf encI a2) (qc a2) false), (3, .op 0 0 0), (4, .int .i64 a4), (5, .op 1 0 0), (10, .op 2 0 0), (11, .op 3 0 0), (12, .op 5 0 0), (14, .int .i64 x6), (15, .op 6 0 0), (17, .int .i64 x28), (18, .op 7 0 0)]) (τ := [.cells 0 [.int .i64 m0_27], .cells 0 (encGSchema a0), .cells 0 [.int .i64 0, .int .i64 0, .str [], .ds true [] 0 true, .ds true [] 0 true], .cells 0 [.int .i64 3, .int .i64 0, .str [], .os true 2 4 v5 0 (qc l4) false, .ds true [] 0 true], .cells v5 (qf encGEntry l4), .cells 0 (encGMessage r1.1), .cells 0 (encGField r20.1), .cells 0 [.int .i64 x6, .os true 5 8 0 0 (qc ([] : List GTree)) false], .cells 0 (qf encGTree ([] : List GTree))]) .s ?_
     refine ze fun Z30 hZ30 => ?_
     refine rg tok [2, 3, 4, 5, 10, 11, 12, 14, 15, 17, 18, 19] fun K hK => ?_
     simp only [go_sem, qb, qa]
     apply hK
     refine zj ?_
     refine zB (fun m L τ => ∃ (k39 : Nat) (m0_31 : Int) (l32 : List GTree) (x34 : Int) (v33 : Nat), m = 0 + k39 ∧ L = [(2, .ds true (qf encI a2) (qc a2) false), (3, .op 0 0 0), (4, .int .i64 a4), (5, .op 1 0 0), (10, .op 2 0 0), (11, .op 3 0 0), (12, .op 5 0 0), (14, .int .i64 x6), (15, .op 6 0 0), (17, .int .i64 x28), (18, .op 7 0 0), (19, .int .i64 x34)] ∧ τ = ([.cells 0 [.int .i64 m0_31], .cells 0 (encGSchema a0), .cells 0 [.int .i64 0, .int .i64 0, .str [], .ds true [] 0 true, .ds true [] 0 true], .cells 0 [.int .i64 3, .int .i64 0, .str [], .os true 2 4 v5 0 (qc l4) false, .ds true [] 0 true], .cells v5 (qf encGEntry l4), .cells 0 (encGMessage r1.1), .cells 0 (encGField r20.1), .cells 0 [.int .i64 x6, .os true 5 8 v33 0 (qc l32) false], .cells v33 (qf encGTree l32)] : Store) ∧ zz.l39 zT a0 a2 a4 l4 x6 (zz.l11 zT a0 a2 a4 r1 k11) r20 x28 k39 m0_31 l32 x34 = some r) _ ⟨rounds, m0_27, ([] : List GTree), 0, 0, rfl, rfl, rfl, h⟩ .s ?_
     rintro m L τ ⟨k39, m0_31, l32, x34, v33, rfl, rfl, rfl, h⟩
     rcases k39 with _ | k39
     · cases h
     simp only [zz.l39] at h
     refine ze fun Z40 hZ40 => ?_
     refine rg tok [2, 3, 4, 5, 10, 11, 12, 14, 15, 17, 18, 19, 75] fun K hK => ?_
     simp only [go_sem, qb, qa]
     apply hK
     refine zI rfl (fun hc41 => ?_) (fun hc41 => ?_)
     · rw [if_pos hc41] at h
       have t42 := eq_true hc41
       refine zf ?_
       apply hZ40
       refine xN (fun L τ => ∃ (m0_43 : Int) (l44 : List GTree) (v45 : Nat), L = [(2, .ds true (qf encI a2) (qc a2) false), (3, .op 0 0 0), (4, .int .i64 a4), (5, .op 1 0 0), (10, .op 2 0 0), (11, .op 3 0 0), (12, .op 5 0 0), (14, .int .i64 x6), (15, .op 6 0 0), (17, .int .i64 x28), (18, .op 7 0 0), (19, .int .i64 x34)] ∧ τ = ([.cells 0 [.int .i64 m0_43], .cells 0 (encGSchema a0), .cells 0 [.int .i64 0, .int .i64 0, .str [], .ds true [] 0 true, .ds true [] 0 true], .cells 0 [.int .i64 3, .int .i64 0, .str [], .os true 2 4 v5 0 (qc l4) false, .ds true [] 0 true], .cells v5 (qf encGEntry l4), .cells 0 (encGMessage r1.1), .cells 0 (encGField r20.1), .cells 0 [.int .i64 x6, .os true 5 8 v45 0 (qc l44) false], .cells v45 (qf encGTree l44)] : Store) ∧ zz.j46 x34 (zz.l39 zT a0 a2 a4 l4 x6 (zz.l11 zT a0 a2 a4 r1 k11) r20 x28 k39) m0_43 l44 = some r) ?_ ?_
       · refine zj ?_
         refine rc [2, 3, 4, 5, 10, 11, 12, 14, 15, 17, 18, 19, 20] fun K hK => ?_
         obtain ⟨r47, hr47, h⟩ := bind_some h
         refine za tok 5 ?_
         simp only [go_sem, qb, qe, qa, qd, t42]
         refine zh rfl rfl rfl (@id (ACalls qh 85 [.agg (encGSchema a0), .agg (encGField r20.1), .ds true (qf encI a2) (qc a2) false, .op 0 0 0, .int .i64 a4] [.cells 0 [.int .i64 m0_31], .cells 0 (encGSchema a0), .cells 0 [.int .i64 0, .int .i64 0, .str [], .ds true [] 0 true, .ds true [] 0 true], .cells 0 [.int .i64 3, .int .i64 0, .str [], .os true 2 4 v5 0 (qc l4) false, .ds true [] 0 true], .cells v5 (qf encGEntry l4), .cells 0 (encGMessage r1.1), .cells 0 (encGField r20.1), .cells 0 [.int .i64 x6, .os true 5 8 v33 0 (qc l32) false], .cells v33 (qf encGTree l32)] (fun r' σ' => r' = .agg (cellsGTree r47.1) ∧ σ' = [.cells 0 [.int .i64 r47.2], .cells 0 (encGSchema a0), .cells 0 [.int .i64 0, .int .i64 0, .str [], .ds true [] 0 true, .ds true [] 0 true], .cells 0 [.int .i64 3, .int .i64 0, .str [], .os true 2 4 v5 0 (qc l4) false, .ds true [] 0 true], .cells v5 (qf encGEntry l4), .cells 0 (encGMessage r1.1), .cells 0 (encGField r20.1), .cells 0 [.int .i64 x6, .os true 5 8 v33 0 (qc l32) false], .cells v33 (qf encGTree l32)])) ((vam a0 r20.1 a2 m0_31 a4 r47 hr47).i [0])) ?_
         rintro _ _ ⟨rfl, rfl⟩
         refine za tok 2 ?_
         simp only [go_sem, qb, qe, qa, qd, cellsGTree]
         refine zb ?_
         simp only [zd, upd, qa, reduceIte, zk, zo]
         apply hK
         refine rc [2, 3, 4, 5, 10, 11, 12, 14, 15, 17, 18, 19, 20, 91] fun K hK => ?_
         refine za tok 4 ?_
         simp only [go_sem, qb, qa, qd]
         obtain ⟨c48, hc48, h⟩ := zW h
         refine zn 4 (fun L τ => L = [(2, .ds true (qf encI a2) (qc a2) false), (3, .op 0 0 0), (4, .int .i64 a4), (5, .op 1 0 0), (10, .op 2 0 0), (11, .op 3 0 0), (12, .op 5 0 0), (14, .int .i64 x6), (15, .op 6 0 0), (17, .int .i64 x28), (18, .op 7 0 0), (19, .int .i64 x34), (20, .op 9 0 0), (91, .bool c48)] ∧ τ = ([.cells 0 [.int .i64 r47.2], .cells 0 (encGSchema a0), .cells 0 [.int .i64 0, .int .i64 0, .str [], .ds true [] 0 true, .ds true [] 0 true], .cells 0 [.int .i64 3, .int .i64 0, .str [], .os true 2 4 v5 0 (qc l4) false, .ds true [] 0 true], .cells v5 (qf encGEntry l4), .cells 0 (encGMessage r1.1), .cells 0 (encGField r20.1), .cells 0 [.int .i64 x6, .os true 5 8 v33 0 (qc l32) false], .cells v33 (qf encGTree l32), .cells 0 (cellsGTree r47.1)] : Store)) ?_ ?_
         · refine yH 87 rfl (fun hg87 => ?_) (fun hg87 => ?_)
           · have t49 := eq_false hg87
             rw [if_neg hg87] at hc48
             refine za tok 4 ?_
             simp only [go_sem, qb, qa]
             subst hc48
             refine zb ⟨rfl, _, _, ⟨rfl, rfl⟩, .p t49⟩
           have t50 := eq_true hg87
           rw [if_pos hg87] at hc48
           obtain ⟨r51, hr51, hc48⟩ := zW hc48
           refine za tok 1 ?_
           simp only [go_sem, qb, qe, qa, qd]
           refine zh rfl rfl rfl (wK.ev r47.1 r51 hr51 _) ?_
           rintro _ _ ⟨rfl, rfl⟩
           refine za tok 2 ?_
           simp only [go_sem, qb, qa]
           subst hc48
           refine zb ⟨rfl, _, _, ⟨rfl, rfl⟩, .p t50⟩
         rintro _ _ ⟨rfl, rfl⟩
         refine zb ?_
         simp only [zd, qa, reduceIte, zk, zo]
         apply hK
         refine zt (b := c48) rfl (fun hc52 => ?_) (fun hc52 => ?_)
         · rw [if_pos hc52] at h
           obtain ⟨_u53, hu53, h⟩ := bind_some h
           have gu53 := yq hu53
           have f54 := (zE E90.len l32)
           refine rgE tok [2, 3, 4, 5, 10, 11, 12, 14, 15, 17, 18, 19] fun K hK => ?_
           simp only [go_sem, qb, qe, qa, qd, qs, zO, z7, q7, qX, true_and, uf, yh, zU, yk, gu53, f54, yG, ud, q5, AV.one, qU, qB, qk, ql, qn, qH]
           apply hK
           exact ⟨_, _, ⟨r47.2, l32 ++ [r47.1], v33 + 1, rfl, rfl, h⟩, (.t [0, 1, 2, 3, 4, 5, 6, 7, 8] false)⟩
         rw [xK hc52] at h
         refine zf ?_
         exact ⟨_, _, ⟨r47.2, l32, v33, rfl, rfl, h⟩, (.t [0, 1, 2, 3, 4, 5, 6, 7, 8] false)⟩
       rintro _ _ ⟨m0_43, l44, v45, rfl, rfl, h⟩
       unfold zz.j46 at h
       refine rgE tok [2, 3, 4, 5, 10, 11, 12, 14, 15, 17, 18, 19] fun K hK => ?_
       simp only [go_sem, qb, qa]
       apply hK
       exact ⟨_, _, _, qw (0 + k39), ⟨k39, m0_43, l44, IntKind.i64.wrap (x34 + 1), v45, rfl, rfl, rfl, h⟩, .s⟩
     rw [if_neg hc41] at h
     have t55 := eq_false hc41
     refine zJ ?_
     apply hZ30
     refine rg tok [2, 3, 4, 5, 10, 11, 12, 14, 18, 101] fun K hK => ?_
     simp only [go_sem, qb, qa, qd, t55]
     apply hK
     refine zI rfl (fun hc56 => ?_) (fun hc56 => ?_)
     · rw [if_pos hc56] at h
       have t57 := eq_true hc56
       obtain ⟨_u58, hu58, h⟩ := bind_some h
       have gu58 := yq hu58
       have f59 := (zE E27.len l4)
       refine rgE tok [2, 3, 4, 5, 10, 11, 12, 14] fun K hK => ?_
       simp only [go_sem, qb, qe, qa, qd, qs, zO, z7, q7, qX, true_and, uf, yh, zU, yk, t57, gu58, f59, yG, ud, q5, AV.one, qU, qB, qk, ql, qn, qH]
       apply hK
       exact ⟨_, _, ⟨m0_31, l4 ++ [(⟨x6, l32⟩ : GEntry)], v5 + 1, rfl, rfl, h⟩, (.t [0, 1, 2, 3, 4, 5] false)⟩
     rw [if_neg hc56] at h
     have t60 := eq_false hc56
     refine zf ?_
     exact ⟨_, _, ⟨m0_31, l4, v5, rfl, rfl, h⟩, (.t [0, 1, 2, 3, 4, 5] false)⟩
   rintro _ _ ⟨m0_16, l17, v18, rfl, rfl, h⟩
   unfold zz.j19 at h
   refine rgE tok [2, 3, 4, 5, 10, 11, 12, 14] fun K hK => ?_
   simp only [go_sem, qb, qa]
   apply hK
   exact ⟨_, _, _, qw (0 + k11), ⟨k11, m0_16, l17, IntKind.i64.wrap (x6 + 1), v18, rfl, rfl, rfl, h⟩, .s⟩
 rw [xK hc15] at h
 refine zJ ?_
 apply hZ2
 refine rg tok [10] fun K hK => ?_
 simp only [go_sem, qb, qe, qa, qd]
 apply hK
 refine zi ?_
 obtain rfl := Option.some.inj h
 simp only [Zl, yP, y1, xJ, exists_eq_left', go_sem, qe, qd, cellsGTree]
 refine ⟨by decide, by simp, ?_, ?_⟩
 · first | rfl | (simp only [go_sem, reduceCtorEq, push_cast, if_true, qz, qn, qD, qv, qJ, qL, qI, zF] <;> rfl)
 first | rfl | (simp only [go_sem, qb, qe, qa, qd, qs, qF, reduceIte, reduceCtorEq, push_cast, if_true, qz, qn, qD, qv, qE, qJ, qR, qO, qL, qI, qx, zF, cellsGEntry, cellsGTree, yo, yp] <;> rfl)
def xp.j16 (xl : GSchema → (List UInt8) → (List Int) → Int → Int → Option (GTree × Int)) (a0 : GSchema) (a1 : GField) (a2 : List Int) (a4 : Int) (r1 : Int × Int) (x15 : Bool) : Option (GTree × Int) :=
 (if x15 = true then (wW ([0, 1, 2, 4, 6, 7] : List Int) ((r1.1).tmod 6)).bind fun y18 => (grd ((0 : Int) ≤ 0 ∧ 0 ≤ y18 ∧ y18 ≤ (qc ([103, 114, 195, 182, 195, 159, 101] : List UInt8) : Int))).bind fun _u20 => some ((⟨2, 0, Yt ([103, 114, 195, 182, 195, 159, 101] : List UInt8) 0 y18, ([] : List GEntry), ([] : List GRaw)⟩ : GTree), r1.2) else (xl a0 a1.fType.fName a2 r1.2 (IntKind.i64.wrap (a4 + 1))).bind fun r22 => some (r22.1, r22.2))
def xp.body (xl : GSchema → (List UInt8) → (List Int) → Int → Int → Option (GTree × Int)) (zT : GSchema → GField → (List Int) → Int → Int → Option (GTree × Int)) (a0 : GSchema) (a1 : GField) (a2 : List Int) (a3 : Int) (a4 : Int) : Option (GTree × Int) :=
 (wd a2 a3).bind fun r1 => (if a1.fType.fKind = 1 then some ((⟨1, IntKind.i64.wrap ((r1.1).tmod 4294967296 - 2147483648), [], ([] : List GEntry), ([] : List GRaw)⟩ : GTree), r1.2) else (if a1.fType.fKind = 2 then some ((⟨1, IntKind.i64.wrap (r1.1 - 2305843009213693952), [], ([] : List GEntry), ([] : List GRaw)⟩ : GTree), r1.2) else (if a1.fType.fKind = 3 then some ((⟨1, (r1.1).tmod 2, [], ([] : List GEntry), ([] : List GRaw)⟩ : GTree), r1.2) else (if a1.fType.fKind = 6 then some ((⟨1, (r1.1).tmod 5, [], ([] : List GEntry), ([] : List GRaw)⟩ : GTree), r1.2) else (if a1.fType.fKind = 4 then (xp.j16 xl a0 a1 a2 a4 r1 (decide (a1.fType.fKind = 4))) else (xp.j16 xl a0 a1 a2 a4 r1 (decide (a1.fType.fKind = 5))))))))
theorem xp.step (xl : GSchema → (List UInt8) → (List Int) → Int → Int → Option (GTree × Int)) (zT : GSchema → GField → (List Int) → Int → Int → Option (GTree × Int)) (van : ∀ (a0 : GSchema) (a1 : List UInt8) (a2 : List Int) (a3 : Int) (a4 : Int) (r : GTree × Int), xl a0 a1 a2 a3 a4 = some r → ACalls qh 48 [.agg (encGSchema a0), .str a1, .ds true (qf encI a2) (qc a2) false, .op 0 0 0, .int .i64 a4] [.cells 0 [.int .i64 a3]] (fun r' σ' => r' = .agg (cellsGTree r.1) ∧ σ' = [.cells 0 [.int .i64 r.2]])) (vam : ∀ (a0 : GSchema) (a1 : GField) (a2 : List Int) (a3 : Int) (a4 : Int) (r : GTree × Int), zT a0 a1 a2 a3 a4 = some r → ACalls qh 85 [.agg (encGSchema a0), .agg (encGField a1), .ds true (qf encI a2) (qc a2) false, .op 0 0 0, .int .i64 a4] [.cells 0 [.int .i64 a3]] (fun r' σ' => r' = .agg (cellsGTree r.1) ∧ σ' = [.cells 0 [.int .i64 r.2]])) (a0 : GSchema) (a1 : GField) (a2 : List Int) (a3 : Int) (a4 : Int) (r : GTree × Int) (h : xp.body xl zT a0 a1 a2 a3 a4 = some r) : ACalls qh 85 [.agg (encGSchema a0), .agg (encGField a1), .ds true (qf encI a2) (qc a2) false, .op 0 0 0, .int .i64 a4] [.cells 0 [.int .i64 a3]] (fun r' σ' => r' = .agg (cellsGTree r.1) ∧ σ' = [.cells 0 [.int .i64 r.2]]) := by
 refine Yz [0] (rs := [.cell 10 30]) tok Tryz.func85 rfl Tryz.ntmps85 rfl Tryz.call85 (by simp) rfl ?_
 refine zq [(0, .agg (encGSchema a0)), (1, .agg (encGField a1)), (2, .ds true (qf encI a2) (qc a2) false), (3, .op 0 0 0), (4, .int .i64 a4)] ⟨rfl, rfl, rfl, rfl, rfl, trivial⟩ ?_
 unfold xp.body at h
 refine rg tok [2, 3, 4, 5, 6, 10] fun K hK => ?_
 simp only [go_sem, qb, qa, qd, reduceCtorEq, encGField, encGSchema]
 apply hK
 refine rc [2, 3, 4, 5, 6, 10, 11] fun K hK => ?_
 obtain ⟨r1, hr1, h⟩ := bind_some h
 refine za tok 2 ?_
 simp only [go_sem, qb, qa]
 refine zh rfl rfl rfl (@id (ACalls qh 84 [.ds true (qf encI a2) (qc a2) false, .op 0 0 0] [.cells 0 [.int .i64 a3], .cells 0 (encGSchema a0), .cells 0 (encGField a1), .cells 0 [.int .i64 0, .int .i64 0, .str [], .ds true [] 0 true, .ds true [] 0 true]] (fun r' σ' => r' = .int .i64 r1.1 ∧ σ' = [.cells 0 [.int .i64 r1.2], .cells 0 (encGSchema a0), .cells 0 (encGField a1), .cells 0 [.int .i64 0, .int .i64 0, .str [], .ds true [] 0 true, .ds true [] 0 true]])) ((wd.ok a2 a3 r1 hr1).i [0])) ?_
 rintro _ _ ⟨rfl, rfl⟩
 refine za tok 1 ?_
 simp only [go_sem, qb, qa]
 refine zb ?_
 simp only [zd, upd, qa, reduceIte, zk, zo]
 apply hK
 refine ze fun Z2 hZ2 => ?_
 refine rg tok [2, 3, 4, 5, 6, 10, 11, 17] fun K hK => ?_
 simp only [go_sem, qb, qa, qd]
 apply hK
 refine zj ?_
 refine rg tok [2, 3, 4, 5, 6, 10, 11, 17, 18] fun K hK => ?_
 simp only [go_sem, qb, qa]
 apply hK
 refine zI rfl (fun hc3 => ?_) (fun hc3 => ?_)
 · rw [if_pos hc3] at h
   have t4 := eq_true hc3
   refine rg tok [10] fun K hK => ?_
   simp only [go_sem, qb, qe, qa, qd, t4, Int.reduceEq]
   apply hK
   refine zi ?_
   obtain rfl := Option.some.inj h
   simp only [Zl, yP, y1, xJ, exists_eq_left', go_sem, qe, qd, cellsGTree]
   refine ⟨by decide, by simp, ?_, ?_⟩
   · first | rfl | (simp only [go_sem, qb, qe, qa, qd, qs, qF, reduceIte, reduceCtorEq, push_cast, if_true, qz, qn, qD, qv, qE, qJ, qR, qO, qL, qI, qx, zF, cellsGTree, yp] <;> rfl)
   first | rfl | (simp only [go_sem, qb, qe, qa, qd, qs, qF, reduceIte, reduceCtorEq, push_cast, if_true, qz, qn, qD, qv, qE, qJ, qR, qO, qL, qI, qx, zF, cellsGTree, yp] <;> rfl)
 rw [if_neg hc3] at h
 have t5 := eq_false hc3
 refine rg tok [2, 3, 4, 5, 6, 10, 11, 17, 24] fun K hK => ?_
 simp only [go_sem, qb, qa, t5]
 apply hK
 refine zI rfl (fun hc6 => ?_) (fun hc6 => ?_)
 · rw [if_pos hc6] at h
   have t7 := eq_true hc6
   refine rg tok [10] fun K hK => ?_
   simp only [go_sem, qb, qe, qa, qd, t7]
   apply hK
   refine zi ?_
   obtain rfl := Option.some.inj h
   simp only [Zl, yP, y1, xJ, exists_eq_left', go_sem, qe, qd, cellsGTree]
   refine ⟨by decide, by simp, ?_, ?_⟩
   · first | rfl | (simp only [go_sem, qb, qe, qa, qd, qs, qF, reduceIte, reduceCtorEq, push_cast, if_true, qz, qn, qD, qv, qE, qJ, qR, qO, qL, qI, qx, zF, cellsGTree, yp] <;> rfl)
   first | rfl | (simp only [go_sem, qb, qe, qa, qd, qs, qF, reduceIte, reduceCtorEq, push_cast, if_true, qz, qn, qD, qv, qE, qJ, qR, qO, qL, qI, qx, zF, cellsGTree, yp] <;> rfl)
 rw [if_neg hc6] at h
 have t8 := eq_false hc6
 refine rg tok [2, 3, 4, 5, 6, 10, 11, 17, 29] fun K hK => ?_
 simp only [go_sem, qb, qa, t8]
 apply hK
 refine zI rfl (fun hc9 => ?_) (fun hc9 => ?_)
 · rw [if_pos hc9] at h
   have t10 := eq_true hc9
   refine rg tok [10] fun K hK => ?_
   simp only [go_sem, qb, qe, qa, qd, t10, Int.reduceEq]
   apply hK
   refine zi ?_
   obtain rfl := Option.some.inj h
   simp only [Zl, yP, y1, xJ, exists_eq_left', go_sem, qe, qd, cellsGTree]
   refine ⟨by decide, by simp, ?_, ?_⟩
   · first | rfl | (simp only [go_sem, qb, qe, qa, qd, qs, qF, reduceIte, reduceCtorEq, push_cast, if_true, qz, qn, qD, qv, qE, qJ, qR, qO, qL, qI, qx, zF, cellsGTree, yp] <;> rfl)
   first | rfl | (simp only [go_sem, qb, qe, qa, qd, qs, qF, reduceIte, reduceCtorEq, push_cast, if_true, qz, qn, qD, qv, qE, qJ, qR, qO, qL, qI, qx, zF, cellsGTree, yp] <;> rfl)
 rw [if_neg hc9] at h
 have t11 := eq_false hc9
 refine rg tok [2, 3, 4, 5, 6, 10, 11, 17, 34] fun K hK => ?_
 simp only [go_sem, qb, qa, t11]
 apply hK
 refine zI rfl (fun hc12 => ?_) (fun hc12 => ?_)
 · rw [if_pos hc12] at h
   have t13 := eq_true hc12
   refine rg tok [10] fun K hK => ?_
   simp only [go_sem, qb, qe, qa, qd, t13, Int.reduceEq]
   apply hK
   refine zi ?_
   obtain rfl := Option.some.inj h
   simp only [Zl, yP, y1, xJ, exists_eq_left', go_sem, qe, qd, cellsGTree]
   refine ⟨by decide, by simp, ?_, ?_⟩
   · first | rfl | (simp only [go_sem, qb, qe, qa, qd, qs, qF, reduceIte, reduceCtorEq, push_cast, if_true, qz, qn, qD, qv, qE, qJ, qR, qO, qL, qI, qx, zF, cellsGTree, yp] <;> rfl)
   first | rfl | (simp only [go_sem, qb, qe, qa, qd, qs, qF, reduceIte, reduceCtorEq, push_cast, if_true, qz, qn, qD, qv, qE, qJ, qR, qO, qL, qI, qx, zF, cellsGTree, yp] <;> rfl)
 rw [if_neg hc12] at h
 have t14 := eq_false hc12
 refine xN (fun L τ => ∃ (x15 : Bool), L = [(2, .ds true (qf encI a2) (qc a2) false), (3, .op 0 0 0), (4, .int .i64 a4), (5, .op 1 0 0), (6, .op 2 0 0), (10, .op 3 0 0), (11, .int .i64 r1.1), (39, .bool x15)] ∧ τ = ([.cells 0 [.int .i64 r1.2], .cells 0 (encGSchema a0), .cells 0 (encGField a1), .cells 0 [.int .i64 0, .int .i64 0, .str [], .ds true [] 0 true, .ds true [] 0 true]] : Store) ∧ xp.j16 xl a0 a1 a2 a4 r1 x15 = some r) ?_ ?_
 · refine rg tok [2, 3, 4, 5, 6, 10, 11, 17, 39] fun K hK => ?_
   simp only [go_sem, qb, qa, t14]
   apply hK
   refine zI rfl (fun hc23 => ?_) (fun hc23 => ?_)
   · rw [if_pos hc23] at h
     have t24 := eq_true hc23
     refine zf ?_
     exact ⟨_, _, ⟨decide (a1.fType.fKind = 4), rfl, rfl, h⟩, .s⟩
   rw [if_neg hc23] at h
   have t25 := eq_false hc23
   refine rgE tok [2, 3, 4, 5, 6, 10, 11, 39] fun K hK => ?_
   simp only [go_sem, qb, qa, t25]
   apply hK
   exact ⟨_, _, ⟨decide (a1.fType.fKind = 5), rfl, rfl, h⟩, .s⟩
 rintro _ _ ⟨x15, rfl, rfl, h⟩
 unfold xp.j16 at h
 refine zt (b := x15) rfl (fun hc17 => ?_) (fun hc17 => ?_)
 · rw [if_pos hc17] at h
   obtain ⟨y18, hy18, h⟩ := bind_some h
   have f19 := (show Y8 tab 181 (.agg [.int .i64 0, .int .i64 1, .int .i64 2, .int .i64 4, .int .i64 6, .int .i64 7]) (.int .i64 ((r1.1).tmod 6)) = some (.int .i64 y18) from idx_arr (T := tab) (t := 181) (l := [0, 1, 2, 4, 6, 7]) rfl rfl rfl rfl rfl rfl hy18 .i64)
   obtain ⟨_u20, hu20, h⟩ := bind_some h
   have gu20 := wE hu20
   have f21 := str_hi (T := tab) (t := 9) rfl rfl gu20
   refine rg tok [10] fun K hK => ?_
   simp only [go_sem, qb, qe, qa, qd, qs, f19, f21, Int.reduceEq]
   apply hK
   refine zi ?_
   obtain rfl := Option.some.inj h
   simp only [Zl, yP, y1, xJ, exists_eq_left', go_sem, qe, qd, cellsGTree]
   refine ⟨by decide, by simp, ?_, ?_⟩
   · first | rfl | (simp only [go_sem, qb, qe, qa, qd, qs, qF, reduceIte, reduceCtorEq, push_cast, if_true, qz, qn, qD, qv, qE, qJ, qR, qO, qL, qI, qx, zF, cellsGTree, yp] <;> rfl)
   first | rfl | (simp only [go_sem, qb, qe, qa, qd, qs, qF, reduceIte, reduceCtorEq, push_cast, if_true, qz, qn, qD, qv, qE, qJ, qR, qO, qL, qI, qx, zF, cellsGTree, yp] <;> rfl)
 rw [xK hc17] at h
 refine zf ?_
 apply hZ2
 refine rc [10] fun K hK => ?_
 obtain ⟨r22, hr22, h⟩ := bind_some h
 refine za tok 8 ?_
 simp only [go_sem, qb, qe, qa, qd]
 refine zh rfl rfl rfl (@id (ACalls qh 48 [.agg (encGSchema a0), .str a1.fType.fName, .ds true (qf encI a2) (qc a2) false, .op 0 0 0, .int .i64 (IntKind.i64.wrap (a4 + 1))] [.cells 0 [.int .i64 r1.2], .cells 0 (encGSchema a0), .cells 0 (encGField a1), .cells 0 [.int .i64 0, .int .i64 0, .str [], .ds true [] 0 true, .ds true [] 0 true]] (fun r' σ' => r' = .agg (cellsGTree r22.1) ∧ σ' = [.cells 0 [.int .i64 r22.2], .cells 0 (encGSchema a0), .cells 0 (encGField a1), .cells 0 [.int .i64 0, .int .i64 0, .str [], .ds true [] 0 true, .ds true [] 0 true]])) ((van a0 a1.fType.fName a2 r1.2 (IntKind.i64.wrap (a4 + 1)) r22 hr22).i [0])) ?_
 rintro _ _ ⟨rfl, rfl⟩
 refine za tok 1 ?_
 simp only [go_sem, qe, qa, qd, cellsGTree]
 refine zb ?_
 simp only [zd, upd, qa, reduceIte, zk, zo]
 apply hK
 refine zi ?_
 obtain rfl := Option.some.inj h
 simp only [Zl, yP, y1, xJ, exists_eq_left', go_sem, qe, qd, cellsGTree]
 refine ⟨by decide, by simp, ?_, ?_⟩
 · first | rfl | (simp only [go_sem, push_cast, qD, qv, qJ, qL, qI, zF] <;> rfl)
 first | rfl | (simp only [go_sem, qb, qe, qa, qd, qs, qF, reduceIte, reduceCtorEq, push_cast, if_true, qz, qn, qD, qv, qE, qJ, qR, qO, qL, qI, qx, zF, cellsGTree, yp] <;> rfl)
mutual
def zz : Nat → GSchema → (List UInt8) → (List Int) → Int → Int → Option (GTree × Int)
 | 0, _, _, _, _, _ => none
 | k + 1, a0, a1, a2, a3, a4 => zz.body (zz k) (xp k) a0 a1 a2 a3 a4
def xp : Nat → GSchema → GField → (List Int) → Int → Int → Option (GTree × Int)
 | 0, _, _, _, _, _ => none
 | k + 1, a0, a1, a2, a3, a4 => xp.body (zz k) (xp k) a0 a1 a2 a3 a4
end
theorem zz.all (k : Nat) : (∀ (a0 : GSchema) (a1 : List UInt8) (a2 : List Int) (a3 : Int) (a4 : Int) (r : GTree × Int), zz k a0 a1 a2 a3 a4 = some r → ACalls qh 48 [.agg (encGSchema a0), .str a1, .ds true (qf encI a2) (qc a2) false, .op 0 0 0, .int .i64 a4] [.cells 0 [.int .i64 a3]] (fun r' σ' => r' = .agg (cellsGTree r.1) ∧ σ' = [.cells 0 [.int .i64 r.2]])) ∧ (∀ (a0 : GSchema) (a1 : GField) (a2 : List Int) (a3 : Int) (a4 : Int) (r : GTree × Int), xp k a0 a1 a2 a3 a4 = some r → ACalls qh 85 [.agg (encGSchema a0), .agg (encGField a1), .ds true (qf encI a2) (qc a2) false, .op 0 0 0, .int .i64 a4] [.cells 0 [.int .i64 a3]] (fun r' σ' => r' = .agg (cellsGTree r.1) ∧ σ' = [.cells 0 [.int .i64 r.2]])) := by
 induction k with
 | zero => exact ⟨(fun a0 a1 a2 a3 a4 r h => by simp only [zz] at h; cases h), (fun a0 a1 a2 a3 a4 r h => by simp only [xp] at h; cases h)⟩
 | succ k ih => exact ⟨(fun a0 a1 a2 a3 a4 r h => zz.step _ _ ih.1 ih.2 a0 a1 a2 a3 a4 r (by simpa only [zz] using h)), (fun a0 a1 a2 a3 a4 r h => xp.step _ _ ih.1 ih.2 a0 a1 a2 a3 a4 r (by simpa only [xp] using h))⟩
theorem zz.ok (k : Nat) (a0 : GSchema) (a1 : List UInt8) (a2 : List Int) (a3 : Int) (a4 : Int) (r : GTree × Int) (h : zz k a0 a1 a2 a3 a4 = some r) : ACalls qh 48 [.agg (encGSchema a0), .str a1, .ds true (qf encI a2) (qc a2) false, .op 0 0 0, .int .i64 a4] [.cells 0 [.int .i64 a3]] (fun r' σ' => r' = .agg (cellsGTree r.1) ∧ σ' = [.cells 0 [.int .i64 r.2]]) := (zz.all k).1 a0 a1 a2 a3 a4 r h
def wX (a0 : GSchema) (a1 : List UInt8) (a2 : List Int) : Option GTree :=
 (zz rounds a0 a1 a2 0 1).bind fun r1 => some r1.1
theorem wX.ok (a0 : GSchema) (a1 : List UInt8) (a2 : List Int) (r : GTree) (h : wX a0 a1 a2 = some r) : ACalls qh 23 [.agg (encGSchema a0), .str a1, .ds true (qf encI a2) (qc a2) false] [] (fun r' _ => r' = .agg (cellsGTree r)) := by
 refine zm (rs := [.cell 6 30]) tok Tryz.func23 rfl Tryz.ntmps23 rfl Tryz.call23 (by simp) ?_
 refine zq [(0, .agg (encGSchema a0)), (1, .str a1), (2, .ds true (qf encI a2) (qc a2) false)] ⟨rfl, rfl, rfl, trivial⟩ ?_
 unfold wX at h
 refine rg tok [1, 2, 3, 6] fun K hK => ?_
 simp only [go_sem, qb, qa, qd, reduceCtorEq, encGSchema]
 apply hK
 refine rg tok [1, 2, 3, 6, 7] fun K hK => ?_
 simp only [go_sem, qb, qe, qa, qd]
 apply hK
 refine rc [6] fun K hK => ?_
 obtain ⟨r1, hr1, h⟩ := bind_some h
 refine za tok 3 ?_
 simp only [go_sem, qb, qe, qa, qd]
 refine zh rfl rfl rfl (@id (ACalls qh 48 [.agg (encGSchema a0), .str a1, .ds true (qf encI a2) (qc a2) false, .op 2 0 0, .int .i64 1] [.cells 0 (encGSchema a0), .cells 0 [.int .i64 0, .int .i64 0, .str [], .ds true [] 0 true, .ds true [] 0 true], .cells 0 [.int .i64 0]] (fun r' σ' => r' = .agg (cellsGTree r1.1) ∧ σ' = [.cells 0 (encGSchema a0), .cells 0 [.int .i64 0, .int .i64 0, .str [], .ds true [] 0 true, .ds true [] 0 true], .cells 0 [.int .i64 r1.2]])) ((zz.ok rounds a0 a1 a2 0 1 r1 hr1).i [2])) ?_
 rintro _ _ ⟨rfl, rfl⟩
 refine za tok 1 ?_
 simp only [go_sem, qe, qa, qd, cellsGTree]
 refine zb ?_
 simp only [zd, upd, qa, reduceIte, zk, zo]
 apply hK
 refine zi ?_
 obtain rfl := Option.some.inj h
 exact yy
theorem wX.ev (a0 : GSchema) (a1 : List UInt8) (a2 : List Int) (r : GTree) (h : wX a0 a1 a2 = some r) (σ : Store) : ACalls qh 23 [.agg (encGSchema a0), .str a1, .ds true (qf encI a2) (qc a2) false] σ (fun r' σ' => r' = .agg (cellsGTree r) ∧ σ' = σ) :=
 (wX.ok a0 a1 a2 r h).c σ
def law12_DecodeBack (a0 : GSchema) (a1 : Int) (a2 : List Int) : Option Bool :=
 (zK a0).bind fun r2 => (if (!r2) = true then some true else (yV a0).bind fun r3 => some (!(decide (r3 = 0)))).bind fun c3 => (if (c3 || (decide (200 < (qc a2 : Int)))) = true then (xF).bind fun r6 => some r6 else (xf a1 (qc a0.fMessages : Int)).bind fun r7 => (wW a0.fMessages r7).bind fun y8 => (wX a0 y8.fName a2).bind fun r11 => (zV rounds r11).bind fun r12 => (xv r12).bind fun r13 => (if r13.2 = 4 then (xF).bind fun r17 => some r17 else (yb a0).bind fun r19 => (xG r13.1).bind fun r20 => (xg r19 y8.fName r20).bind fun r21 => (if ((decide (r13.2 = 0)) && (decide (r21.2 = 0))) = true then (zP rounds r21.1 r11).bind fun r24 => some r24 else some false).bind fun c24 => (if c24 = true then (yR a0 y8.fName r13.1).bind fun r26 => some r26 else some false).bind fun c26 => (if c26 = true then (xF).bind fun r28 => some r28 else some false).bind fun c28 => some c28))
theorem law12_DecodeBack.ok (a0 : GSchema) (a1 : Int) (a2 : List Int) (r : Bool) (h : law12_DecodeBack a0 a1 a2 = some r) : ACalls qh 4 [.agg (encGSchema a0), .int .i64 a1, .ds true (qf encI a2) (qc a2) false] [] (fun r' _ => r' = .bool r) := by
 refine zm (rs := [.tmp 6]) tok Tryz.func4 rfl Tryz.ntmps4 rfl Tryz.call4 (by simp) ?_
 refine zq [(0, .agg (encGSchema a0)), (1, .int .i64 a1), (2, .ds true (qf encI a2) (qc a2) false)] ⟨rfl, rfl, rfl, trivial⟩ ?_
 unfold law12_DecodeBack at h
 refine rg tok [1, 2, 3] fun K hK => ?_
 simp only [go_sem, qb, qa, qd, reduceCtorEq, encGSchema]
 apply hK
 refine ze fun Z1 hZ1 => ?_
 refine rc [1, 2, 3, 25] fun K hK => ?_
 obtain ⟨r2, hr2, h⟩ := bind_some h
 refine za tok 1 ?_
 simp only [go_sem, qb, qe, qa, qd]
 refine zh rfl rfl rfl (zK.ev a0 r2 hr2 _) ?_
 rintro _ _ ⟨rfl, rfl⟩
 refine za tok 2 ?_
 simp only [go_sem, qb, qa]
 obtain ⟨c3, hc3, h⟩ := bind_some h
 refine zn 4 (fun L τ => L = [(1, .int .i64 a1), (2, .ds true (qf encI a2) (qc a2) false), (3, .op 0 0 0), (20, .bool c3)] ∧ τ = ([.cells 0 (encGSchema a0)] : Store)) ?_ ?_
 · refine zQ (b := (!r2)) 16 rfl (fun hg16 => ?_) (fun hg16 => ?_)
   · rw [if_pos hg16] at hc3
     refine za tok 4 ?_
     simp only [go_sem, qb, qa]
     obtain rfl := Option.some.inj hc3
     refine zb ⟨rfl, _, _, ⟨rfl, rfl⟩, .b hg16⟩
   rw [xK hg16] at hc3
   obtain ⟨r4, hr4, hc3⟩ := bind_some hc3
   refine za tok 1 ?_
   simp only [go_sem, qb, qe, qa, qd]
   refine zh rfl rfl rfl (yV.ev a0 r4 hr4 _) ?_
   rintro _ _ ⟨rfl, rfl⟩
   refine za tok 2 ?_
   simp only [go_sem, qb, qa]
   obtain rfl := Option.some.inj hc3
   refine zb ⟨rfl, _, _, ⟨rfl, rfl⟩, .b hg16⟩
 rintro _ _ ⟨rfl, rfl⟩
 refine za tok 1 ?_
 simp only [go_sem, qb, qa]
 refine zn 4 (fun L τ => L = [(1, .int .i64 a1), (2, .ds true (qf encI a2) (qc a2) false), (3, .op 0 0 0), (25, .bool (c3 || (decide (200 < (qc a2 : Int)))))] ∧ τ = ([.cells 0 (encGSchema a0)] : Store)) ?_ ?_
 · refine zQ (b := c3) 21 rfl (fun hg21 => ?_) (fun hg21 => ?_)
   · refine za tok 4 ?_
     simp only [go_sem, qb, qa]
     refine zb ⟨rfl, _, _, ⟨rfl, rfl⟩, .b hg21⟩
   refine za tok 4 ?_
   simp only [go_sem, qb, qa]
   refine zb ⟨rfl, _, _, ⟨rfl, rfl⟩, .b hg21⟩
 rintro _ _ ⟨rfl, rfl⟩
 refine zb ?_
 simp only [zd, qa, reduceIte, zk, zo]
 apply hK
 refine zt (b := (c3 || (decide (200 < (qc a2 : Int))))) rfl (fun hc5 => ?_) (fun hc5 => ?_)
 · rw [if_pos hc5] at h
   refine rc [6] fun K hK => ?_
   obtain ⟨r6, hr6, h⟩ := bind_some h
   refine zh rfl rfl rfl (xF.ev  r6 hr6 _) ?_
   rintro _ _ ⟨rfl, rfl⟩
   refine za tok 1 ?_
   simp only [go_sem, qb, qa]
   refine zb ?_
   simp only [zd, upd, qa, reduceIte, zk, zo]
   apply hK
   refine zi ?_
   obtain rfl := Option.some.inj h
   exact yy
 rw [xK hc5] at h
 refine zf ?_
 apply hZ1
 obtain ⟨r7, hr7, h⟩ := bind_some h
 obtain ⟨y8, hy8, h⟩ := bind_some h
 have f9 := E22.idxS hy8
 have f10 := E22.fldS0 (f := 9) rfl rfl hy8
 refine rd [2, 3, 7] fun K hK => ?_
 refine DW.start (T := tab) [.any, .own 1 [], .any, .any, .at [], .at [], .eff, .any, .any, .at [], .any] [(1, [])] ?_
 refine DW.runN tok 6 ?_
 simp only [go_sem, qb, qa, qd]
 refine DW.call rfl rfl rfl (xf.ev a1 (qc a0.fMessages : Int) r7 hr7 _) ?_
 refine DW.runN tok 4 ?_
 simp only [go_sem, qb, qa, encGMessage, f9, f10]
 refine DW.fin tok (by decide +kernel) rfl ?_
 simp only [zd, upd, qa, reduceIte, zk, zo]
 apply hK
 refine rc [3, 7, 8] fun K hK => ?_
 obtain ⟨r11, hr11, h⟩ := bind_some h
 refine za tok 3 ?_
 simp only [go_sem, qb, qe, qa, qd]
 refine zh rfl rfl rfl (wX.ev a0 y8.fName a2 r11 hr11 _) ?_
 rintro _ _ ⟨rfl, rfl⟩
 refine za tok 2 ?_
 simp only [go_sem, qb, qe, qa, qd, cellsGTree]
 refine zb ?_
 simp only [zd, upd, qa, reduceIte, zk, zo]
 apply hK
 refine rc [3, 7, 8, 9, 10] fun K hK => ?_
 obtain ⟨r12, hr12, h⟩ := bind_some h
 refine za tok 1 ?_
 simp only [go_sem, qb, qe, qa, qd]
 refine zh rfl rfl rfl (zV.ev rounds r11 r12 hr12 _) ?_
 rintro _ _ ⟨rfl, rfl⟩
 obtain ⟨r13, hr13, h⟩ := bind_some h
 refine zh rfl rfl rfl (xv.ev r12 r13 hr13 _) ?_
 rintro _ _ ⟨rfl, rfl⟩
 refine za tok 5 ?_
 simp only [go_sem, qb, qa, qd, cellsGTree]
 refine zb ?_
 simp only [zd, upd, qa, reduceIte, zk, zo]
 apply hK
 refine ze fun Z14 hZ14 => ?_
 refine rg tok [3, 7, 8, 9, 10, 48] fun K hK => ?_
 simp only [go_sem, qb, qa]
 apply hK
 refine zI rfl (fun hc15 => ?_) (fun hc15 => ?_)
 · rw [if_pos hc15] at h
   have t16 := eq_true hc15
   refine rc [6] fun K hK => ?_
   obtain ⟨r17, hr17, h⟩ := bind_some h
   refine zh rfl rfl rfl (xF.ev  r17 hr17 _) ?_
   rintro _ _ ⟨rfl, rfl⟩
   refine za tok 1 ?_
   simp only [go_sem, qb, qa, t16]
   refine zb ?_
   simp only [zd, upd, qa, reduceIte, zk, zo]
   apply hK
   refine zi ?_
   obtain rfl := Option.some.inj h
   exact yy
 rw [if_neg hc15] at h
 have t18 := eq_false hc15
 refine zf ?_
 apply hZ14
 refine rc [3, 7, 8, 9, 10, 11, 12] fun K hK => ?_
 obtain ⟨r19, hr19, h⟩ := bind_some h
 refine za tok 1 ?_
 simp only [go_sem, qb, qe, qa, qd, t18]
 refine zh rfl rfl rfl (yb.ev a0 r19 hr19 _) ?_
 rintro _ _ ⟨rfl, rfl⟩
 obtain ⟨r20, hr20, h⟩ := bind_some h
 refine za tok 2 ?_
 simp only [go_sem, qb, qa, encGSchema]
 refine zh rfl rfl rfl (xG.ev r13.1 r20 hr20 _) ?_
 rintro _ _ ⟨rfl, rfl⟩
 obtain ⟨r21, hr21, h⟩ := bind_some h
 refine zh rfl rfl rfl (xg.ev r19 y8.fName r20 r21 hr21 _) ?_
 rintro _ _ ⟨rfl, rfl⟩
 refine za tok 6 ?_
 simp only [go_sem, qb, qe, qa, qd, cellsGTree]
 refine zb ?_
 simp only [zd, upd, qa, reduceIte, zk, zo]
 apply hK
 refine rc [6] fun K hK => ?_
 refine za tok 3 ?_
 simp only [go_sem, qb, qa]
 refine zn 3 (fun L τ => L = [(3, .op 0 0 0), (7, .str y8.fName), (8, .op 1 0 0), (9, .ds true (qf encB r13.1) (qc r13.1) false), (11, .op 2 0 0), (64, .bool ((decide (r13.2 = 0)) && (decide (r21.2 = 0))))] ∧ τ = ([.cells 0 (encGSchema a0), .cells 0 (cellsGTree r11), .cells 0 (cellsGTree r21.1)] : Store)) ?_ ?_
 · refine yH 61 rfl (fun hg61 => ?_) (fun hg61 => ?_)
   · have t22 := eq_true hg61
     refine za tok 3 ?_
     simp only [go_sem, qb, qa]
     refine zb ⟨rfl, _, _, ⟨rfl, rfl⟩, .p t22⟩
   have t23 := eq_false hg61
   refine za tok 3 ?_
   simp only [go_sem, qb, qa]
   refine zb ⟨rfl, _, _, ⟨rfl, rfl⟩, .p t23⟩
 rintro _ _ ⟨rfl, rfl⟩
 refine za tok 1 ?_
 simp only [go_sem, qb, qa]
 obtain ⟨c24, hc24, h⟩ := bind_some h
 refine zn 4 (fun L τ => L = [(3, .op 0 0 0), (7, .str y8.fName), (9, .ds true (qf encB r13.1) (qc r13.1) false), (69, .bool c24)] ∧ τ = ([.cells 0 (encGSchema a0), .cells 0 (cellsGTree r11), .cells 0 (cellsGTree r21.1)] : Store)) ?_ ?_
 · refine zQ (b := ((decide (r13.2 = 0)) && (decide (r21.2 = 0)))) 65 rfl (fun hg65 => ?_) (fun hg65 => ?_)
   · rw [if_pos hg65] at hc24
     obtain ⟨r25, hr25, hc24⟩ := bind_some hc24
     refine za tok 2 ?_
     simp only [go_sem, qb, qe, qa, qd]
     refine zh rfl rfl rfl (zP.ev rounds r21.1 r11 r25 hr25 _) ?_
     rintro _ _ ⟨rfl, rfl⟩
     refine za tok 1 ?_
     simp only [go_sem, qb, qa]
     obtain rfl := Option.some.inj hc24
     refine zb ⟨rfl, _, _, ⟨rfl, rfl⟩, .b hg65⟩
   rw [xK hg65] at hc24
   refine za tok 4 ?_
   simp only [go_sem, qb, qa]
   obtain rfl := Option.some.inj hc24
   refine zb ⟨rfl, _, _, ⟨rfl, rfl⟩, .b hg65⟩
 rintro _ _ ⟨rfl, rfl⟩
 refine za tok 1 ?_
 simp only [go_sem, qb, qa]
 obtain ⟨c26, hc26, h⟩ := bind_some h
 refine zn 5 (fun L τ => L = [(75, .bool c26)] ∧ τ = ([.cells 0 (encGSchema a0), .cells 0 (cellsGTree r11), .cells 0 (cellsGTree r21.1)] : Store)) ?_ ?_
 · refine zQ (b := c24) 70 rfl (fun hg70 => ?_) (fun hg70 => ?_)
   · rw [if_pos hg70] at hc26
     obtain ⟨r27, hr27, hc26⟩ := bind_some hc26
     refine za tok 3 ?_
     simp only [go_sem, qb, qe, qa, qd]
     refine zh rfl rfl rfl (yR.ev a0 y8.fName r13.1 r27 hr27 _) ?_
     rintro _ _ ⟨rfl, rfl⟩
     refine za tok 1 ?_
     simp only [go_sem, qb, qa]
     obtain rfl := Option.some.inj hc26
     refine zb ⟨rfl, _, _, ⟨rfl, rfl⟩, .b hg70⟩
   rw [xK hg70] at hc26
   refine za tok 5 ?_
   simp only [go_sem, qb, qa]
   obtain rfl := Option.some.inj hc26
   refine zb ⟨rfl, _, _, ⟨rfl, rfl⟩, .b hg70⟩
 rintro _ _ ⟨rfl, rfl⟩
 refine za tok 1 ?_
 simp only [go_sem, qb]
 obtain ⟨c28, hc28, h⟩ := bind_some h
 refine zn 2 (fun L τ => L = [(78, .bool c28)] ∧ τ = ([.cells 0 (encGSchema a0), .cells 0 (cellsGTree r11), .cells 0 (cellsGTree r21.1)] : Store)) ?_ ?_
 · refine zQ (b := c26) 76 rfl (fun hg76 => ?_) (fun hg76 => ?_)
   · rw [if_pos hg76] at hc28
     obtain ⟨r29, hr29, hc28⟩ := bind_some hc28
     refine zh rfl rfl rfl (xF.ev  r29 hr29 _) ?_
     rintro _ _ ⟨rfl, rfl⟩
     refine za tok 1 ?_
     simp only [go_sem, qb, qa]
     obtain rfl := Option.some.inj hc28
     refine zb ⟨rfl, _, _, ⟨rfl, rfl⟩, .b hg76⟩
   rw [xK hg76] at hc28
   refine za tok 2 ?_
   simp only [go_sem, qb, qa]
   obtain rfl := Option.some.inj hc28
   refine zb ⟨rfl, _, _, ⟨rfl, rfl⟩, .b hg76⟩
 rintro _ _ ⟨rfl, rfl⟩
 refine za tok 1 ?_
 simp only [go_sem, qb]
 refine zb ?_
 simp only [zd, upd, qa, reduceIte, zk, zo]
 apply hK
 refine zi ?_
 obtain rfl := Option.some.inj h
 exact yy
end
section
set_option maxRecDepth 4000
open AM
def vb (n : Nat) : List UInt8 := if h : n < 128 then [uc n] else uc (n % 128 + 128) :: vb (n / 128)
termination_by n
decreasing_by omega
theorem vb_lt {n : Nat} (h : n < 128) : vb n = [uc n] := by rw [vb, dif_pos h]
theorem vb_ge {n : Nat} (h : ¬ n < 128) : vb n = uc (n % 128 + 128) :: vb (n / 128) := by rw [vb, dif_neg h]
theorem vb_pos (n : Nat) : 0 < (vb n).length := by
 by_cases h : n < 128
 · rw [vb_lt h]; exact Nat.one_pos
 rw [vb_ge h, qk]; omega
theorem vb_len : ∀ (k n : Nat), n < 2 ^ (7 * (k + 1)) → (vb n).length ≤ k + 1
 | 0, n, h => by rw [vb_lt (by simpa using h)]; exact qt _
 | k + 1, n, h => by
  by_cases h1 : n < 128
  · rw [vb_lt h1, qk, ql]; omega
  rw [vb_ge h1, qk]
  have := vb_len k (n / 128) (by
   have e : 2 ^ (7 * (k + 1 + 1)) = 128 * 2 ^ (7 * (k + 1)) := by rw [show 7 * (k + 1 + 1) = 7 + 7 * (k + 1) by omega, Nat.pow_add]
   rw [e] at h
   exact Nat.div_lt_of_lt_mul h)
  omega
theorem vb_len10 {n : Nat} (h : n < 2 ^ 64) : (vb n).length ≤ 10 := vb_len 9 n (ug h (by decide))
theorem YT {p : Prop} [Decidable p] (h : p) : grd p = some () := if_pos h
theorem xB {n b : Nat} (h : n * b ≤ 140737488355328) : Yi n b = some () := if_pos h
theorem u64w {n : Nat} (h : n < 2 ^ 64) : IntKind.u64.wrap (n : Int) = (n : Int) := by rw [IntKind.wrap_u64]; omega
theorem u64i {x : Int} (h : 0 ≤ x) (h' : x < 18446744073709551616) : IntKind.u64.wrap x = x := by rw [IntKind.wrap_u64]; omega
theorem u8w (n : Nat) : IntKind.u8.wrap (n : Int) = ((n % 256 : Nat) : Int) := by
 simp only [IntKind.wrap, IntKind.bits, IntKind.signed, Bool.false_and]
 simp
theorem vak (n : Nat) (h : n < 256) : (uc n).toNat = n := by
 rw [UInt8.toNat_ofNat']; omega
theorem or128 : ∀ m : Fin 256, (qy 8 ((m.val : Nat) : Int) ||| qy 8 128).toNat = m.val % 128 + 128 := by decide
theorem and127 : ∀ m : Fin 256, (qy 8 ((m.val : Nat) : Int) &&& ~~~(qy 8 128)).toNat = m.val % 128 := by decide
theorem moreByte (n : Nat) : uc (qK (IntKind.u8.wrap ((uk (qy 8 (IntKind.u8.wrap (n : Int)) ||| qy 8 128) : Nat) : Int))) = uc (n % 128 + 128) := by
 have h := or128 ⟨n % 256, Nat.mod_lt _ (by decide)⟩
 simp only at h
 rw [u8w n, h, u8w (n % 256 % 128 + 128), qV]
 congr 1
 have := Nat.mod_mod_of_dvd n (show 128 ∣ 256 by decide)
 omega
theorem lastByte (n : Nat) (h : n < 128) : uc (qK (IntKind.u8.wrap (n : Int))) = uc n := by
 rw [u8w, qV]; congr 1; omega
theorem shr7 (n : Nat) : Int.fdiv (n : Int) (2 ^ (min (qK 7) 64)) = ((n / 128 : Nat) : Int) := by
 rw [show ((2 : Int) ^ (min (qK 7) 64)) = 128 from by decide, Int.fdiv_eq_ediv_of_nonneg _ (by decide)]
 omega
theorem vint_Put_l : ∀ (k n : Nat) (l : List UInt8), n < 2 ^ (7 * k) → l.length + k ≤ 140737488355328 → xd.l9 k l (n : Int) = some (l ++ vb n) ∨ k = 0
 | 0, _, _, _, _ => Or.inr rfl
 | k + 1, n, l, h, hl => by
  left
  by_cases h1 : n < 128
  · rw [xd.l9, if_neg (by omega), xB (by omega), qg, lastByte n h1, vb_lt h1]
  rw [xd.l9, if_pos (by omega), xB (by omega), qg, moreByte, shr7, vb_ge h1]
  have hk : n / 128 < 2 ^ (7 * k) := by
   have e : 2 ^ (7 * (k + 1)) = 128 * 2 ^ (7 * k) := by rw [show 7 * (k + 1) = 7 + 7 * k by omega, Nat.pow_add]
   rw [e] at h; exact Nat.div_lt_of_lt_mul h
  rcases vint_Put_l k (n / 128) (l ++ [uc (n % 128 + 128)]) hk (by rw [qi, qG]; omega) with e | e
  · rw [e, qq]; rfl
  exfalso; subst e; simp at hk; omega
theorem vint_Put_m : ∀ (k j n : Nat) (l r : List UInt8), xd.l9 k l (n : Int) = some r → xd.l9 (k + j) l (n : Int) = some r
 | 0, _, _, _, _, h => by cases h
 | k + 1, j, n, l, r, h => by
  rw [Nat.succ_add_eq_add_succ, Nat.add_succ]
  by_cases h1 : (128 : Int) ≤ (n : Int)
  · rw [xd.l9, if_pos h1] at h ⊢
    cases hr : Yi (qc l + 1) 1 with
    | none => rw [hr] at h; cases h
    | some u =>
     rw [hr, qg, shr7] at h
     rw [qg, shr7]; exact vint_Put_m k j _ _ _ h
  rw [xd.l9, if_neg h1] at h ⊢; exact h
theorem Xs (a : List UInt8) {n : Nat} (h : n < 2 ^ 64) (ha : a.length ≤ 140737488355000) : xd a (n : Int) = some (a ++ vb n) := by
 by_cases h1 : n < 128
 · rw [xd, if_neg (by omega), xB (by omega), qg, lastByte n h1, vb_lt h1]
 rw [xd, if_pos (by omega), xB (by omega), qg, moreByte, shr7, vb_ge h1]
 rcases vint_Put_l 10 (n / 128) (a ++ [uc (n % 128 + 128)]) (by omega) (by rw [qi, qG]; omega) with e | e
 · have := vint_Put_m 10 999999999999999999990 _ _ _ e
   rw [show 10 + 999999999999999999990 = rounds from rfl] at this
   rw [this, qq]; rfl
 cases e
theorem orAdd {i acc d : Nat} (h : acc < 2 ^ i) : acc ||| d * 2 ^ i = acc + d * 2 ^ i := by
 rw [Nat.or_comm, Nat.mul_comm, ← Nat.two_pow_add_eq_or_of_lt h]; omega
theorem bv64 {n : Nat} (h : n < 2 ^ 64) : (qy 64 (n : Int)).toNat = n := by
 rw [BitVec.ofInt_natCast, BitVec.toNat_ofNat]; exact Nat.mod_eq_of_lt h
theorem stepv {acc i : Nat} {y : UInt8} (hi : i ≤ 9) (ha : acc < 2 ^ (7 * i)) (h9 : i = 9 → y.toNat ≤ 1) : IntKind.u64.wrap ((uk (qy 64 (acc : Int) ||| qy 64 (IntKind.u64.wrap ((IntKind.u64.wrap (IntKind.u8.wrap ((uk (qy 8 (y.toNat : Int) &&& ~~~(qy 8 128)) : Nat) : Int))) * 2 ^ (min (qK (IntKind.i64.wrap (7 * (i : Int)))) 64)))) : Nat) : Int) = ((acc + (y.toNat % 128) * 2 ^ (7 * i) : Nat) : Int) ∧ acc + (y.toNat % 128) * 2 ^ (7 * i) < 2 ^ 64 ∧ (i < 9 → acc + (y.toNat % 128) * 2 ^ (7 * i) < 2 ^ (7 * (i + 1))) := by
 have hy : y.toNat < 256 := y.toNat_lt
 have h := and127 ⟨y.toNat, hy⟩
 simp only at h
 have e : IntKind.i64.wrap (7 * (i : Int)) = ((7 * i : Nat) : Int) := by rw [yF (by omega) (by omega)]; omega
 have hm : min (7 * i) 64 = 7 * i := by omega
 have hd : y.toNat % 128 < 128 := Nat.mod_lt _ (by decide)
 have hp : 2 ^ (7 * (i + 1)) = 128 * 2 ^ (7 * i) := by rw [show 7 * (i + 1) = 7 + 7 * i by omega, Nat.pow_add]
 have hs : i < 9 → acc + (y.toNat % 128) * 2 ^ (7 * i) < 2 ^ (7 * (i + 1)) := by
  intro _
  rw [hp]
  have : (y.toNat % 128) * 2 ^ (7 * i) ≤ 127 * 2 ^ (7 * i) := qZ _ (by omega)
  omega
 have hb : acc + (y.toNat % 128) * 2 ^ (7 * i) < 2 ^ 64 := by
  by_cases h8 : i < 9
  · have := hs h8
    have h2 : 2 ^ (7 * (i + 1)) ≤ 2 ^ 63 := Nat.pow_le_pow_right (by decide) (by omega)
    omega
  have hi9 : i = 9 := by omega
  have h1 := h9 hi9
  subst hi9
  have : y.toNat % 128 ≤ 1 := by omega
  have h2 : (y.toNat % 128) * 2 ^ (7 * 9) ≤ 1 * 2 ^ (7 * 9) := qZ _ this
  omega
 refine ⟨?_, hb, hs⟩
 rw [h, u8w, Nat.mod_eq_of_lt (show y.toNat % 128 < 256 by omega), e, qV, hm]
 have hc : ((((y.toNat % 128 : Nat) : Int)) * 2 ^ (7 * i)) = (((y.toNat % 128) * 2 ^ (7 * i) : Nat) : Int) := by
  rw [Int.natCast_mul, Int.natCast_pow]; rfl
 have hu : IntKind.u64.wrap ((y.toNat % 128 : Nat) : Int) = ((y.toNat % 128 : Nat) : Int) := u64w (by omega)
 rw [hu, hc, u64w (n := y.toNat % 128 * 2 ^ (7 * i)) (by omega), BitVec.toNat_or, bv64 (by omega), bv64 (by omega), orAdd ha, u64w hb]
theorem vaT (a : Nat) (hA : a ≤ 4611686018427387904) : ∀ (q post : List UInt8) (v i acc : Nat), q = vb v ++ post → i ≤ 9 → acc < 2 ^ (7 * i) → v * 2 ^ (7 * i) < 2 ^ 64 → (0 < i → v ≠ 0) →
 xq.l12 (a : Int) q (i : Int) (acc : Int) = some (((acc + v * 2 ^ (7 * i) : Nat) : Int), ((a + i + (vb v).length : Nat) : Int), 0)
 | [], post, v, i, acc, h, _, _, _, _ => by
  have := vb_pos v
  have h2 := congrArg qc h
  rw [qi, ql] at h2; omega
 | y :: q, post, v, i, acc, h, hi, ha, hv, h0 => by
  by_cases h1 : v < 128
  · rw [vb_lt h1] at h ⊢
    obtain ⟨rfl, rfl⟩ : y = uc v ∧ q = post := by injection h with h2 h3; exact ⟨h2, h3⟩
    have hy : (uc v).toNat = v := vak v (by omega)
    have h9 : i = 9 → v ≤ 1 := by
     intro e; subst e
     apply Nat.le_of_not_lt; intro hc
     have : 2 * 2 ^ (7 * 9) ≤ v * 2 ^ (7 * 9) := qZ _ hc
     omega
    have st := (stepv (y := uc v) hi ha (by rw [hy]; exact h9)).1
    have hw1 : IntKind.i64.wrap (7 * (i : Int)) = 7 * (i : Int) := yF (by omega) (by omega)
    rw [xq.l12, st, hy]
    rw [if_neg (by simp only [qm, decide_eq_true_eq, not_and]; intro e; have := h9 (by omega); omega), YT (by rw [yF (by omega) (by omega)]; omega), qg, if_neg (by omega), if_neg (by simp only [qm, decide_eq_true_eq, not_and]; intro e e2; exact h0 (by omega) (by omega))]
    rw [Nat.mod_eq_of_lt h1, yF (x := (a : Int) + (i : Int)) (by omega) (by omega), yF (x := (a : Int) + (i : Int) + 1) (by omega) (by omega), qG]
    simp only [Int.natCast_add, Int.natCast_one]
  rw [vb_ge h1] at h ⊢
  obtain ⟨rfl, rfl⟩ : y = uc (v % 128 + 128) ∧ q = vb (v / 128) ++ post := by injection h with h2 h3; exact ⟨h2, h3⟩
  have hy : (uc (v % 128 + 128)).toNat = v % 128 + 128 := vak _ (by omega)
  have hi8 : i < 9 := by
   apply Nat.lt_of_not_le; intro hc
   have : i = 9 := by omega
   subst this
   have : 128 * 2 ^ (7 * 9) ≤ v * 2 ^ (7 * 9) := qZ _ (by omega)
   omega
  obtain ⟨st, sb, sn⟩ := stepv (y := uc (v % 128 + 128)) hi ha (by intro e; omega)
  rw [xq.l12, st, hy, if_neg (by simp only [qm, decide_eq_true_eq, not_and]; intro e; omega), YT (by rw [yF (by omega) (by omega)]; omega), qg, if_pos (by omega)]
  rw [hy] at sn
  have hm : (v % 128 + 128) % 128 = v % 128 := by omega
  rw [hm] at sn ⊢
  have hp : 2 ^ (7 * (i + 1)) = 128 * 2 ^ (7 * i) := by rw [show 7 * (i + 1) = 7 + 7 * i by omega, Nat.pow_add]
  have hvd : v = 128 * (v / 128) + v % 128 := (Nat.div_add_mod v 128).symm
  have hmul : v * 2 ^ (7 * i) = (v / 128) * 2 ^ (7 * (i + 1)) + (v % 128) * 2 ^ (7 * i) := by
   rw [hp]
   calc v * 2 ^ (7 * i) = (128 * (v / 128) + v % 128) * 2 ^ (7 * i) := by rw [← hvd]
    _ = _ := by rw [uT, Nat.mul_comm 128, Nat.mul_assoc]
  have ih := vaT a hA (vb (v / 128) ++ post) post (v / 128) (i + 1) (acc + v % 128 * 2 ^ (7 * i)) rfl (by omega) (sn hi8) (by rw [hmul] at hv; omega) (by intro _; omega)
  rw [show ((i : Int) + 1) = ((i + 1 : Nat) : Int) by omega, ih, hmul, qk]
  congr 2
  · congr 1; omega
  congr 2; omega
theorem vaS (a : Nat) (hA : a ≤ 4611686018427387904) : ∀ (q : List UInt8) (i acc : Nat), i + q.length ≤ 10 → acc < 2 ^ (7 * i) → ∃ r, xq.l12 (a : Int) q (i : Int) (acc : Int) = some r ∧
 (r.2.2 = 0 → ∃ v post, q = vb v ++ post ∧ v * 2 ^ (7 * i) < 2 ^ 64 ∧ (0 < i → v ≠ 0)) ∧ 0 ≤ r.2.2
 | [], i, acc, _, _ => ⟨_, rfl, (by intro h; cases h), by decide⟩
 | y :: q, i, acc, hl, ha => by
  rw [qk] at hl
  rw [xq.l12]
  by_cases h9 : ((decide ((i : Int) = 9)) && (decide (1 < (y.toNat : Int)))) = true
  · rw [if_pos h9]; exact ⟨_, rfl, (by intro h; cases h), by decide⟩
  rw [if_neg h9]
  have h9' : i = 9 → y.toNat ≤ 1 := by
   intro e
   simp only [qm, decide_eq_true_eq, not_and] at h9
   have := h9 (by omega); omega
  obtain ⟨st, sb, sn⟩ := stepv (y := y) (show i ≤ 9 by omega) ha h9'
  rw [st, YT (by rw [yF (by omega) (by omega)]; omega), qg]
  have hy : y.toNat < 256 := y.toNat_lt
  by_cases h1 : (128 : Int) ≤ (y.toNat : Int)
  · rw [if_pos h1]
    have hi8 : i < 9 := by
     apply Nat.lt_of_not_le; intro hc
     have := h9' (by omega); omega
    obtain ⟨r, e, hr, h0⟩ := vaS a hA q (i + 1) (acc + y.toNat % 128 * 2 ^ (7 * i)) (by omega) (sn hi8)
    rw [show ((i : Int) + 1) = ((i + 1 : Nat) : Int) by omega]
    refine ⟨r, e, ?_, h0⟩
    intro hz
    obtain ⟨v, post, hq, hv, hn⟩ := hr hz
    have hp : 2 ^ (7 * (i + 1)) = 128 * 2 ^ (7 * i) := by rw [show 7 * (i + 1) = 7 + 7 * i by omega, Nat.pow_add]
    have hvn := hn (by omega)
    have hw : ¬ (v * 128 + y.toNat % 128) < 128 := by omega
    refine ⟨v * 128 + y.toNat % 128, post, ?_, ?_, by intro _; omega⟩
    · rw [vb_ge hw, show (v * 128 + y.toNat % 128) % 128 + 128 = y.toNat by omega, show (v * 128 + y.toNat % 128) / 128 = v by omega, UInt8.ofNat_toNat, hq]; rfl
    rw [hp] at hv
    have hmul : (v * 128 + y.toNat % 128) * 2 ^ (7 * i) = v * (128 * 2 ^ (7 * i)) + y.toNat % 128 * 2 ^ (7 * i) := by rw [uT, Nat.mul_assoc]
    rw [hmul]
    by_cases hi7 : i < 9
    · have hd : y.toNat % 128 * 2 ^ (7 * i) < 128 * 2 ^ (7 * i) := Nat.mul_lt_mul_of_pos_right (by omega) (Nat.pow_pos (by decide))
      have h64 : 128 * 2 ^ (7 * i) ∣ 2 ^ 64 := by rw [← hp]; exact Nat.pow_dvd_pow 2 (by omega)
      obtain ⟨c, hc⟩ := h64
      rw [hc] at hv ⊢
      have hvc : v < c := by
       apply Nat.lt_of_not_le; intro hle
       have := qZ (128 * 2 ^ (7 * i)) hle
       rw [Nat.mul_comm c] at this; omega
      have h3 : (v + 1) * (128 * 2 ^ (7 * i)) ≤ c * (128 * 2 ^ (7 * i)) := qZ _ hvc
      rw [uT, Nat.one_mul] at h3
      rw [Nat.mul_comm (128 * 2 ^ (7 * i)) c]; omega
    omega
  rw [if_neg h1]
  by_cases h2 : ((decide ((y.toNat : Int) = 0)) && (decide (0 < (i : Int)))) = true
  · rw [if_pos h2]; exact ⟨_, rfl, (by intro h; cases h), by decide⟩
  rw [if_neg h2]
  refine ⟨_, rfl, ?_, Int.le_refl 0⟩
  intro _
  refine ⟨y.toNat, q, ?_, ?_, ?_⟩
  · rw [vb_lt (by omega), UInt8.ofNat_toNat]; rfl
  · rw [Nat.mod_eq_of_lt (by omega)] at sb; omega
  intro hi e
  apply h2
  simp only [qm, decide_eq_true_eq]; omega
theorem get_head {b : List UInt8} {n : Nat} (hb : b.length ≤ 4096) (hn : n ≤ b.length) : xq b (n : Int) = xq.l12 (n : Int) ((b.drop n).take 10) 0 0 := by
 have e1 : IntKind.i64.wrap ((qc b : Int) - (n : Int)) = ((b.length - n : Nat) : Int) := by rw [yF (by omega) (by omega)]; omega
 rw [xq, if_neg (by simp only [qQ, decide_eq_true_eq]; omega), e1]
 by_cases h : (10 : Int) < ((b.length - n : Nat) : Int)
 · rw [if_pos h]
   have e2 : IntKind.i64.wrap ((n : Int) + 10) = ((n + 10 : Nat) : Int) := by rw [yF (by omega) (by omega)]; omega
   rw [e2, YT (by omega), qg, Yt, qV, qV, show n + 10 - n = 10 by omega]
 rw [if_neg h]
 have e2 : IntKind.i64.wrap ((n : Int) + ((b.length - n : Nat) : Int)) = (b.length : Int) := by rw [yF (by omega) (by omega)]; omega
 rw [e2, YT (by omega), qg, Yt, qV, qV, uh (by rw [uG]; exact qt _), uh (by rw [uG]; omega)]
theorem get_ok {b post : List UInt8} {n v : Nat} (hb : b.length ≤ 4096) (hn : n ≤ b.length) (h : b.drop n = vb v ++ post) (hv : v < 2 ^ 64) : xq b (n : Int) = some ((v : Int), ((n + (vb v).length : Nat) : Int), 0) := by
 have := vaT n (by omega) ((b.drop n).take 10) (post.take (10 - (vb v).length)) v 0 0 (by rw [h, List.take_append, uh (vb_len10 hv)]) (by omega) (by decide) (by omega) (by omega)
 rw [get_head hb hn]
 simpa using this
theorem get_inv {b : List UInt8} {n : Nat} (hb : b.length ≤ 4096) (hn : n ≤ b.length) : ∃ r, xq b (n : Int) = some r ∧ (r.2.2 = 0 → ∃ v post, b.drop n = vb v ++ post ∧ v < 2 ^ 64 ∧ r = ((v : Int), ((n + (vb v).length : Nat) : Int), 0)) ∧ 0 ≤ r.2.2 := by
 obtain ⟨r, e, hr, h0⟩ := vaS n (by omega) ((b.drop n).take 10) 0 0 (by rw [uF]; omega) (by decide)
 rw [get_head hb hn]
 refine ⟨r, e, ?_, h0⟩
 intro hz
 obtain ⟨v, post, hq, hv, _⟩ := hr hz
 have hv' : v < 2 ^ 64 := by omega
 have hd : b.drop n = vb v ++ (post ++ (b.drop n).drop 10) := by
  rw [← qq, ← hq, uo]
 refine ⟨v, _, hd, hv', ?_⟩
 have := get_ok hb hn hd hv'
 rw [get_head hb hn] at this
 exact Option.some.inj (e.symm.trans this)
end
section
set_option maxRecDepth 4000
open AM
def In64 (n : Int) : Prop := -9223372036854775808 ≤ n ∧ n < 9223372036854775808
def zg (n : Int) : Nat := if 0 ≤ n then (2 * n).toNat else (-2 * n - 1).toNat
def zu (v : Nat) : Int := if v % 2 = 0 then ((v / 2 : Nat) : Int) else -((v / 2 : Nat) : Int) - 1
theorem zg_lt {n : Int} (h : In64 n) : zg n < 2 ^ 64 := by
 unfold zg; obtain ⟨h1, h2⟩ := h; split <;> omega
theorem zu_zg (n : Int) : zu (zg n) = n := by
 unfold zg zu; split <;> split <;> omega
theorem zg_zu (v : Nat) : zg (zu v) = v := by
 unfold zg zu; split <;> split <;> omega
theorem zu_in {v : Nat} (h : v < 2 ^ 64) : In64 (zu v) := by
 unfold zu In64; split <;> omega
theorem bvm1 : qy 64 (-1) = BitVec.allOnes 64 := by decide
theorem bv0 : qy 64 0 = 0#64 := by decide
theorem fdiv2 (n : Int) (k : Nat) : Int.fdiv n (2 ^ k) = n / (2 ^ k) := Int.fdiv_eq_ediv_of_nonneg _ (Int.le_of_lt (Int.pow_pos (by decide)))
theorem vint_Zig_eq {n : Int} (h : In64 n) : Zq n = (zg n : Int) := by
 obtain ⟨h1, h2⟩ := h
 unfold Zq zg
 rw [show min (qK 1) 64 = 1 from rfl, show min (qK 63) 64 = 63 from rfl, fdiv2]
 by_cases h0 : 0 ≤ n
 · have e : n / 2 ^ 63 = 0 := Int.ediv_eq_zero_of_lt h0 (by omega)
   rw [if_pos h0, e, show IntKind.u64.wrap 0 = 0 from by rw [IntKind.wrap_u64]; rfl, bv0, BitVec.xor_zero]
   have e2 : IntKind.u64.wrap (IntKind.u64.wrap n * 2 ^ 1) = (((2 * n).toNat : Nat) : Int) := by rw [IntKind.wrap_u64, IntKind.wrap_u64]; omega
   rw [e2, bv64 (by omega), u64w (by omega)]
 have e : n / 2 ^ 63 = -1 := by omega
 have e1 : IntKind.u64.wrap (-1) = 18446744073709551615 := by rw [IntKind.wrap_u64]; rfl
 have e3 : qy 64 18446744073709551615 = BitVec.allOnes 64 := by decide
 rw [if_neg h0, e, e1, e3, BitVec.xor_allOnes, BitVec.toNat_not]
 have e2 : IntKind.u64.wrap (IntKind.u64.wrap n * 2 ^ 1) = (((2 * n + 18446744073709551616).toNat : Nat) : Int) := by rw [IntKind.wrap_u64, IntKind.wrap_u64]; omega
 rw [e2, bv64 (by omega), u64w (by omega)]
 omega
theorem vint_Zag_eq {v : Nat} (h : v < 2 ^ 64) : Zr (v : Int) = zu v := by
 unfold Zr zu
 rw [show min (qK 1) 64 = 1 from rfl, fdiv2]
 have ea : (qy 64 (v : Int) &&& qy 64 1).toNat = v % 2 := by
  rw [BitVec.toNat_and, bv64 h, show (qy 64 1).toNat = 1 from by decide, Nat.and_one_is_mod]
 have e1 : IntKind.i64.wrap ((v : Int) / 2 ^ 1) = ((v / 2 : Nat) : Int) := by rw [yF (by omega) (by omega)]; omega
 rw [ea, e1, u64w (n := v % 2) (by omega)]
 by_cases h0 : v % 2 = 0
 · rw [if_pos h0, h0]
   have e2 : IntKind.i64.wrap (0 - IntKind.i64.wrap ((0 : Nat) : Int)) = 0 := by decide
   rw [e2, bv0, BitVec.xor_zero, bv64 (by omega), yF (by omega) (by omega)]
 have h1 : v % 2 = 1 := by omega
 rw [if_neg h0, h1]
 have e2 : IntKind.i64.wrap (0 - IntKind.i64.wrap ((1 : Nat) : Int)) = -1 := by decide
 rw [e2, bvm1, BitVec.xor_allOnes, BitVec.toNat_not, bv64 (by omega), IntKind.wrap_i64]
 omega
def YR (r : GRaw) : Prop := yD r = true ∧ In64 r.fN
def keyN (r : GRaw) : Nat := (2 * r.fTag + r.fWire).toNat
def rawB (r : GRaw) : List UInt8 := vb (keyN r) ++ (if r.fWire = 0 then vb (zg r.fN) else vb r.fB.length ++ r.fB)
def ZC (l : List GRaw) : List UInt8 := l.flatMap rawB
theorem YL {r : GRaw} (h : yD r = true) : 1 ≤ r.fTag ∧ r.fTag ≤ 500 ∧ ((r.fWire = 0 ∧ r.fB = []) ∨ (r.fWire = 1 ∧ r.fN = 0 ∧ r.fB.length ≤ 4096)) := by
 unfold yD at h
 split at h
 · cases h
 rename_i h1
 simp only [qQ, decide_eq_true_eq, not_or] at h1
 refine ⟨by omega, by omega, ?_⟩
 split at h
 · left; exact ⟨‹_›, by simpa using h⟩
 split at h
 · right
   simp only [qm, decide_eq_true_eq] at h
   exact ⟨‹_›, h.1, by omega⟩
 cases h
theorem check_num {t n : Int} (h1 : 1 ≤ t) (h2 : t ≤ 500) : yD ⟨t, 0, n, []⟩ = true := by
 unfold yD
 rw [if_neg (by simp only [qQ, decide_eq_true_eq]; omega)]; rfl
theorem vad {t : Int} {s : List UInt8} (h1 : 1 ≤ t) (h2 : t ≤ 500) (h3 : s.length ≤ 4096) : yD ⟨t, 1, 0, s⟩ = true := by
 unfold yD
 rw [if_neg (by simp only [qQ, decide_eq_true_eq]; omega)]
 simp only [decide_true, uE]
 rw [if_neg (by decide), if_pos trivial]; exact decide_eq_true (by omega)
theorem rawB_pos (r : GRaw) : 2 ≤ (rawB r).length := by
 unfold rawB
 have h1 := vb_pos (keyN r)
 have h2 := vb_pos (zg r.fN)
 have h3 := vb_pos r.fB.length
 split <;> simp only [qi] <;> omega
theorem wire_Put_eq {a : List UInt8} {r : GRaw} (h : YR r) (ha : a.length ≤ 1000000) : Zp a r = some (a ++ rawB r, true) := by
 obtain ⟨hc, hn⟩ := h
 obtain ⟨h1, h2, h3⟩ := YL hc
 unfold Zp bnd
 rw [hc]; simp only []
 have ek : IntKind.u64.wrap (IntKind.i64.wrap ((IntKind.i64.wrap (2 * r.fTag)) + r.fWire)) = ((keyN r : Nat) : Int) := by
  rw [yF (x := 2 * r.fTag) (by omega) (by omega), yF (by omega) (by omega), u64i (by omega) (by omega), keyN]; omega
 have k1 : keyN r < 2 ^ 64 := by unfold keyN; omega
 have kl := vb_len10 k1
 rw [if_neg (by decide), ek, Xs a k1 (by omega), qg]
 rcases h3 with ⟨h3, h4⟩ | ⟨h3, h4, h5⟩
 · rw [if_pos h3, vint_Zig_eq hn, Xs _ (zg_lt hn) (by rw [qi]; omega), qg, rawB, if_pos h3, qq]
 have hb := vb_len10 (n := r.fB.length) (by omega)
 rw [if_neg (by omega), u64w (by omega), Xs _ (by omega) (by rw [qi]; omega), qg, xB (by simp only [qi]; omega), qg, rawB, if_neg (by omega)]
 simp only [qq]
theorem putAll_l11 : ∀ (q : List GRaw) (x : Int) (acc : List UInt8), (∀ r ∈ q, YR r) → acc.length ≤ 4096 → z8.l11 q x acc = some (if 4096 < (acc ++ ZC q).length then ([], 4) else (acc ++ ZC q, 0))
 | [], x, acc, _, ha => by
  rw [z8.l11, ZC, uj, qA, if_neg (by omega)]
 | r :: q, x, acc, h, ha => by
  have hr := h r (qp ..)
  rw [z8.l11, wire_Put_eq hr (by omega), qg]; dsimp only
  have e : acc ++ ZC (r :: q) = (acc ++ rawB r) ++ ZC q := by rw [ZC, qT, qq]; rfl
  rw [e]
  by_cases h1 : 4096 < (acc ++ rawB r).length
  · rw [if_pos (by omega), if_pos (by rw [qi]; omega)]
  rw [if_neg (by omega), putAll_l11 q (x + 1) _ (fun s hs => h s (qr _ hs)) (by omega)]
theorem putAll_l4 (a : List GRaw) : ∀ (q : List GRaw) (x : Int), z8.l4 a q x = if q.all yD then z8.l11 a 0 [] else some ([], 1)
 | [], x => by rw [z8.l4]; rfl
 | r :: q, x => by
  rw [z8.l4, bnd, q5]
  by_cases h : yD r = true
  · rw [h, if_neg (by decide), putAll_l4 a q]; rfl
  rw [if_pos (by simpa using h), if_neg (by rw [qm]; exact fun hh => h hh.1)]
theorem putAll_eq {l : List GRaw} (h : ∀ r ∈ l, In64 r.fN) : z8 l = some (if l.all yD then (if 4096 < (ZC l).length then ([], 4) else (ZC l, 0)) else ([], 1)) := by
 rw [z8, putAll_l4]
 by_cases h1 : l.all yD = true
 · rw [if_pos h1, if_pos h1, putAll_l11 l 0 [] (fun r hr => ⟨ua.1 h1 r hr, h r hr⟩) (by decide)]; rfl
 rw [if_neg h1, if_neg h1]
theorem ZO {b x post : List UInt8} {n : Nat} (h : b.drop n = x ++ post) : b.drop (n + x.length) = post := by
 rw [← List.drop_drop, h, List.drop_left' rfl]
theorem Xg {b x post : List UInt8} {n : Nat} (hn : n ≤ b.length) (h : b.drop n = x ++ post) : n + x.length + post.length = b.length := by
 have := congrArg qc h
 rw [uG, qi] at this; omega
theorem one_ok {b post : List UInt8} {n : Nat} {r : GRaw} (hb : b.length ≤ 4096) (hn : n ≤ b.length) (h : b.drop n = rawB r ++ post) (hr : YR r) : wx b (n : Int) = some (r, ((n + (rawB r).length : Nat) : Int), 0) := by
 obtain ⟨hc, hN⟩ := hr
 obtain ⟨h1, h2, h3⟩ := YL hc
 have k1 : keyN r < 2 ^ 64 := by unfold keyN; omega
 rw [rawB, qq] at h
 have hl := Xg hn h
 unfold wx
 rw [get_ok hb hn h k1, qg]
 have hk : keyN r = (2 * r.fTag + r.fWire).toNat := rfl
 have d1 : ((keyN r : Nat) : Int).tdiv 2 = r.fTag := by rw [Int.tdiv_eq_ediv_of_nonneg (by omega), hk]; rcases h3 with h3 | h3 <;> omega
 have d2 : ((keyN r : Nat) : Int).tmod 2 = r.fWire := by rw [Int.tmod_eq_emod_of_nonneg (by omega), hk]; rcases h3 with h3 | h3 <;> omega
 simp only [d1, d2]
 rw [if_pos trivial, if_neg (by rw [u64i (by omega) (by omega)]; simp only [qQ, decide_eq_true_eq]; omega), u64i (x := r.fTag) (by omega) (by omega), yF (x := r.fTag) (by omega) (by omega), yF (x := r.fWire) (by omega) (by omega)]
 have h' := ZO h
 rcases h3 with ⟨h3, h4⟩ | ⟨h3, h4, h5⟩
 · rw [if_pos h3] at h'
   rw [get_ok hb (by omega) h' (zg_lt hN), qg]
   simp only []
   rw [if_pos trivial, if_pos h3, bnd, vint_Zag_eq (zg_lt hN), zu_zg, rawB, if_pos h3]
   have e : r = ⟨r.fTag, r.fWire, r.fN, []⟩ := by cases r; simp only at h4; subst h4; rfl
   rw [← e, qi, uS]
 rw [if_neg (by omega)] at h' hl
 rw [qq] at h'
 have hl' := Xg (by omega) h'
 rw [qi] at hl'
 rw [get_ok hb (by omega) h' (show r.fB.length < 2 ^ 64 by omega), qg]
 simp only []
 have h'' := ZO h'
 have e1 : IntKind.i64.wrap ((b.length : Int) - ((n + (vb (keyN r)).length + (vb r.fB.length).length : Nat) : Int)) = ((r.fB.length + post.length : Nat) : Int) := by rw [yF (by omega) (by omega)]; omega
 have e2 : IntKind.i64.wrap (r.fB.length : Int) = (r.fB.length : Int) := yF (by omega) (by omega)
 have e3 : IntKind.i64.wrap (((n + (vb (keyN r)).length + (vb r.fB.length).length : Nat) : Int) + (r.fB.length : Int)) = ((n + (vb (keyN r)).length + (vb r.fB.length).length + r.fB.length : Nat) : Int) := by rw [yF (by omega) (by omega)]; omega
 rw [if_pos trivial, if_neg (by omega), e1, u64w (by omega), if_neg (by omega), e2, e3, YT (by omega), qg, Yt, qV, qV, h'', Nat.add_sub_cancel_left, List.take_left' rfl, rawB, if_neg (by omega), qi, qi]
 have e : r = ⟨r.fTag, r.fWire, 0, r.fB⟩ := by cases r; simp only at h4; subst h4; rfl
 rw [← e, show n + (vb (keyN r)).length + (vb r.fB.length).length + r.fB.length = n + ((vb (keyN r)).length + ((vb r.fB.length).length + r.fB.length)) by omega]
theorem one_inv {b : List UInt8} {n : Nat} (hb : b.length ≤ 4096) (hn : n ≤ b.length) : ∃ r, wx b (n : Int) = some r ∧
 (r.2.2 = 0 → ∃ x post, b.drop n = rawB x ++ post ∧ YR x ∧ r = (x, ((n + (rawB x).length : Nat) : Int), 0)) ∧ 0 ≤ r.2.2 := by
 obtain ⟨r1, e1, i1, p1⟩ := get_inv hb hn
 by_cases z1 : r1.2.2 = 0
 · obtain ⟨v, post, hd, hv, rfl⟩ := i1 z1
   have hl := Xg hn hd
   have hd' := ZO hd
   by_cases c1 : (decide ((v : Int) < 2) || decide ((500 : Int) < IntKind.u64.wrap ((v : Int).tdiv 2))) = true
   · refine ⟨_, by unfold wx; rw [e1, qg, if_pos rfl, if_pos c1], ?_, by decide⟩
     intro h; exact absurd h (by decide)
   have c1' := c1
   simp only [qQ, decide_eq_true_eq, not_or] at c1
   obtain ⟨c2, c3⟩ := c1
   have d1 : (v : Int).tdiv 2 = ((v / 2 : Nat) : Int) := by rw [Int.tdiv_eq_ediv_of_nonneg (by omega)]; omega
   have d2 : (v : Int).tmod 2 = ((v % 2 : Nat) : Int) := by rw [Int.tmod_eq_emod_of_nonneg (by omega)]; omega
   rw [d1, u64w (by omega)] at c3
   obtain ⟨r2, e2, i2, p2⟩ := get_inv hb (n := n + (vb v).length) (by omega)
   by_cases z2 : r2.2.2 = 0
   · obtain ⟨w, post2, hd2, hw, rfl⟩ := i2 z2
     have hl2 := Xg (by omega) hd2
     by_cases c4 : v % 2 = 0
     · have ok : YR ⟨((v / 2 : Nat) : Int), 0, zu w, []⟩ := ⟨check_num (by omega) (by omega), zu_in hw⟩
       have hkey : keyN ⟨((v / 2 : Nat) : Int), 0, zu w, []⟩ = v := by unfold keyN; simp only []; omega
       have hdr : b.drop n = rawB ⟨((v / 2 : Nat) : Int), 0, zu w, []⟩ ++ post2 := by
        rw [rawB, hkey, if_pos rfl]; simp only [zg_zu]; rw [hd, ← hd', hd2, qq]
       refine ⟨_, one_ok hb hn hdr ok, ?_, Int.le_refl 0⟩
       intro _; exact ⟨_, _, hdr, ok, rfl⟩
     have c5 : v % 2 = 1 := by omega
     by_cases c6 : w ≤ post2.length
     · have ok : YR ⟨((v / 2 : Nat) : Int), 1, 0, post2.take w⟩ := ⟨vad (by omega) (by omega) (by rw [uF]; omega), (show In64 0 from ⟨by decide, by decide⟩)⟩
       have hkey : keyN ⟨((v / 2 : Nat) : Int), 1, 0, post2.take w⟩ = v := by unfold keyN; simp only []; omega
       have hdr : b.drop n = rawB ⟨((v / 2 : Nat) : Int), 1, 0, post2.take w⟩ ++ post2.drop w := by
        rw [rawB, hkey, if_neg (show ¬ (1 : Int) = 0 by decide)]
        simp only [uF, Nat.min_eq_left c6]
        rw [hd, ← hd', hd2, qq, qq, uo]
       refine ⟨_, one_ok hb hn hdr ok, ?_, Int.le_refl 0⟩
       intro _; exact ⟨_, _, hdr, ok, rfl⟩
     have e3 : IntKind.i64.wrap ((b.length : Int) - ((n + (vb v).length + (vb w).length : Nat) : Int)) = ((post2.length : Nat) : Int) := by rw [yF (by omega) (by omega)]; omega
     refine ⟨_, by unfold wx; rw [e1, qg, if_pos rfl, if_neg c1', e2, qg, if_pos rfl, d2, if_neg (by rw [yF (by omega) (by omega)]; omega), e3, u64w (by omega), if_pos (by omega)], ?_, by decide⟩
     intro h; exact absurd h (by decide)
   refine ⟨_, by unfold wx; rw [e1, qg, if_pos rfl, if_neg c1', e2, qg, if_neg z2], ?_, p2⟩
   intro h; exact absurd h z2
 refine ⟨_, by unfold wx; rw [e1, qg, if_neg z1], ?_, p1⟩
 intro h; exact absurd h z1
theorem X1 (r : GRaw) (l : List GRaw) : ZC (r :: l) = rawB r ++ ZC l := by rw [ZC, qT]; rfl
theorem get_l_ok {b : List UInt8} (hb : b.length ≤ 4096) : ∀ (l : List GRaw) (k n : Nat) (acc : List GRaw), n ≤ b.length → b.drop n = ZC l → (∀ r ∈ l, YR r) → 2 * acc.length ≤ n → b.length < k + n →
 xm.l12 b k acc (n : Int) = some (acc ++ l, 0)
 | l, 0, n, acc, hn, _, _, _, hk => by omega
 | [], k + 1, n, acc, hn, hd, _, _, hk => by
  have := congrArg qc hd
  rw [uG, ZC, uj, ql] at this
  rw [xm.l12, if_neg (by omega), qA]
 | r :: l, k + 1, n, acc, hn, hd, hr, ha, hk => by
  rw [X1] at hd
  have hl := Xg hn hd
  have h2 := rawB_pos r
  rw [xm.l12, if_pos (by omega), one_ok hb hn hd (hr r (qp ..)), qg, if_pos rfl, xB (by omega), qg]
  rw [get_l_ok hb l k (n + (rawB r).length) (acc ++ [r]) (by omega) (ZO hd) (fun s hs => hr s (qr _ hs)) (by rw [qi, qG]; omega) (by omega), qq]; rfl
theorem get_l_inv {b : List UInt8} (hb : b.length ≤ 4096) : ∀ (k n : Nat) (acc : List GRaw), n ≤ b.length → 2 * acc.length ≤ n → b.length < k + n →
 ∃ r, xm.l12 b k acc (n : Int) = some r ∧ (r.2 = 0 → ∃ l, b.drop n = ZC l ∧ (∀ r ∈ l, YR r) ∧ r = (acc ++ l, 0)) ∧ 0 ≤ r.2 ∧ (r.2 ≠ 0 → r.1 = [])
 | 0, n, acc, hn, _, hk => by omega
 | k + 1, n, acc, hn, ha, hk => by
  by_cases h : n < b.length
  · obtain ⟨r1, e1, i1, p1⟩ := one_inv hb hn
    by_cases z1 : r1.2.2 = 0
    · obtain ⟨x, post, hd, ok, rfl⟩ := i1 z1
      have hl := Xg hn hd
      have h2 := rawB_pos x
      obtain ⟨r2, e2, i2, p2⟩ := get_l_inv hb k (n + (rawB x).length) (acc ++ [x]) (by omega) (by rw [qi, qG]; omega) (by omega)
      refine ⟨r2, by rw [xm.l12, if_pos (by omega), e1, qg, if_pos rfl, xB (by omega), qg]; exact e2, ?_, p2⟩
      intro hz
      obtain ⟨l, hd2, hok, rfl⟩ := i2 hz
      refine ⟨x :: l, ?_, ?_, by rw [qq]; rfl⟩
      · rw [X1, hd, ← hd2, ZO hd]
      intro s hs
      rcases qM.1 hs with rfl | hs
      · exact ok
      exact hok s hs
    refine ⟨_, by rw [xm.l12, if_pos (by omega), e1, qg, if_neg z1], fun h => absurd h z1, p1, fun _ => rfl⟩
  refine ⟨_, by rw [xm.l12, if_neg (by omega)], fun _ => ⟨[], ?_, (fun r hr => by cases hr), by rw [qA]⟩, Int.le_refl 0, fun h => absurd rfl h⟩
  rw [List.drop_eq_nil_of_le (by omega)]; rfl
theorem get_rounds : 4097 ≤ rounds := by decide
theorem wire_Get_ok {l : List GRaw} (h : ∀ r ∈ l, YR r) (hb : (ZC l).length ≤ 4096) : xm (ZC l) = some (l, 0) := by
 rw [xm, if_neg (by omega)]
 have := get_l_ok hb l rounds 0 [] (ul _) rfl h (qt _) (by have := get_rounds; omega)
 simpa using this
theorem vaf (b : List UInt8) : ∃ r, xm b = some r ∧ (r.2 = 0 → b = ZC r.1 ∧ b.length ≤ 4096 ∧ ∀ x ∈ r.1, YR x) ∧ 0 ≤ r.2 ∧ (r.2 ≠ 0 → r.1 = []) := by
 by_cases hb : b.length ≤ 4096
 · obtain ⟨r, e, i, p, q⟩ := get_l_inv hb rounds 0 [] (ul _) (qt _) (by have := get_rounds; omega)
   refine ⟨r, by rw [xm, if_neg (by omega)]; exact e, ?_, p, q⟩
   intro hz
   obtain ⟨l, hd, ok, rfl⟩ := i hz
   exact ⟨hd, hb, ok⟩
 refine ⟨_, by rw [xm, if_pos (by omega)], fun h => absurd h (by decide), by decide, fun _ => rfl⟩
end
section
set_option maxRecDepth 4000
open AM
def vbg (r : GRaw) : List GRaw → List GRaw
 | [] => [r]
 | x :: l => if r.fTag < x.fTag then r :: x :: l else x :: vbg r l
def srtA : List GRaw → List GRaw → List GRaw
 | [], S => S
 | r :: q, S => srtA q (vbg r S)
def srt (l : List GRaw) : List GRaw := srtA l []
def TagLe (a b : GRaw) : Prop := a.fTag ≤ b.fTag
theorem insR_app {r : GRaw} : ∀ {A B : List GRaw}, (∀ a ∈ A, a.fTag ≤ r.fTag) → (∀ b ∈ B, r.fTag < b.fTag) → vbg r (A ++ B) = A ++ r :: B
 | [], [], _, _ => rfl
 | [], b :: B, _, hB => by
  rw [qB, vbg, if_pos (hB b (qp ..))]; rfl
 | a :: A, B, hA, hB => by
  rw [qH, vbg, if_neg (by have := hA a (qp ..); omega), insR_app (fun x hx => hA x (qr _ hx)) hB]; rfl
theorem insR_mem {r x : GRaw} : ∀ {l : List GRaw}, x ∈ vbg r l ↔ x = r ∨ x ∈ l
 | [] => by simp [vbg]
 | y :: l => by
  rw [vbg]; split
  · simp
  rw [qM, insR_mem, qM]
  constructor
  · rintro (h | h | h)
    · exact Or.inr (Or.inl h)
    · exact Or.inl h
    exact Or.inr (Or.inr h)
  rintro (h | h | h)
  · exact Or.inr (Or.inl h)
  · exact Or.inl h
  exact Or.inr (Or.inr h)
theorem insR_len (r : GRaw) : ∀ l : List GRaw, (vbg r l).length = l.length + 1
 | [] => rfl
 | x :: l => by
  rw [vbg]; split
  · rfl
  rw [qk, insR_len r l, qk]
theorem ZK {r : GRaw} : ∀ {l : List GRaw}, l.Pairwise TagLe → (vbg r l).Pairwise TagLe
 | [], _ => by simp [vbg]
 | x :: l, h => by
  rw [un] at h
  rw [vbg]; split
  · rename_i hlt
    rw [un, un]
    refine ⟨?_, h⟩
    intro y hy
    rcases qM.1 hy with rfl | hy
    · unfold TagLe; omega
    have := h.1 y hy; unfold TagLe at *; omega
  rename_i hge
  rw [un]
  refine ⟨?_, ZK h.2⟩
  intro y hy
  rcases insR_mem.1 hy with rfl | hy
  · unfold TagLe; omega
  exact h.1 y hy
theorem vbf {r : GRaw} (t : Int) : ∀ {l : List GRaw}, l.Pairwise TagLe → (vbg r l).filter (fun x => x.fTag = t) = l.filter (fun x => x.fTag = t) ++ (if r.fTag = t then [r] else [])
 | [], _ => by rw [vbg, List.filter_nil, qB, uA, List.filter_nil]; simp only [decide_eq_true_eq]
 | x :: l, h => by
  rw [un] at h
  rw [vbg]; split
  · rename_i hlt
    rw [uA]
    by_cases hr : r.fTag = t
    · have hn : (x :: l).filter (fun x => x.fTag = t) = [] := by
       rw [List.filter_eq_nil_iff]
       intro y hy
       simp only [decide_eq_true_eq]
       rcases qM.1 hy with rfl | hy
       · omega
       have := h.1 y hy; unfold TagLe at this; omega
      rw [hn, if_pos (by simpa using hr), if_pos hr]; rfl
    rw [if_neg (by simpa using hr), if_neg hr, qA]
  rw [uA, uA, vbf t h.2]
  split <;> rfl
theorem vaZ : ∀ {l S : List GRaw}, S.Pairwise TagLe → (srtA l S).Pairwise TagLe
 | [], _, h => h
 | r :: l, S, h => by rw [srtA]; exact vaZ (l := l) (ZK h)
theorem srt_sorted (l : List GRaw) : (srt l).Pairwise TagLe := vaZ List.Pairwise.nil
theorem srtA_mem {x : GRaw} : ∀ {l S : List GRaw}, x ∈ srtA l S ↔ x ∈ S ∨ x ∈ l
 | [], S => by simp [srtA]
 | r :: l, S => by
  rw [srtA, srtA_mem, insR_mem, qM]
  constructor
  · rintro ((h | h) | h)
    · exact Or.inr (Or.inl h)
    · exact Or.inl h
    exact Or.inr (Or.inr h)
  rintro (h | h | h)
  · exact Or.inl (Or.inr h)
  · exact Or.inl (Or.inl h)
  exact Or.inr h
theorem srt_mem {x : GRaw} {l : List GRaw} : x ∈ srt l ↔ x ∈ l := by rw [srt, srtA_mem]; simp
theorem va0 (t : Int) : ∀ {l S : List GRaw}, S.Pairwise TagLe → (srtA l S).filter (fun x => x.fTag = t) = S.filter (fun x => x.fTag = t) ++ l.filter (fun x => x.fTag = t)
 | [], S, _ => by rw [srtA, List.filter_nil, qA]
 | r :: l, S, h => by
  rw [srtA, va0 t (ZK h), vbf t h, uA, qq]
  congr 1
  simp only [decide_eq_true_eq]
  split <;> rfl
theorem srt_filter (l : List GRaw) (t : Int) : (srt l).filter (fun x => x.fTag = t) = l.filter (fun x => x.fTag = t) := by
 rw [srt, va0 t List.Pairwise.nil]; rfl
theorem srtA_id : ∀ {l S : List GRaw}, (S ++ l).Pairwise TagLe → srtA l S = S ++ l
 | [], S, _ => by rw [srtA, qA]
 | r :: l, S, h => by
  have hS : ∀ a ∈ S, a.fTag ≤ r.fTag := fun a ha => (List.pairwise_append.1 h).2.2 a ha r (qp ..)
  have e : vbg r S = S ++ [r] := by
   have := insR_app (r := r) (A := S) (B := []) hS (fun b hb => by cases hb)
   rwa [qA] at this
  rw [srtA, e, srtA_id (by rwa [qq]), qq]; rfl
theorem srt_id {l : List GRaw} (h : l.Pairwise TagLe) : srt l = l := srtA_id (S := []) h
theorem sorted_ext : ∀ {l m : List GRaw}, l.Pairwise TagLe → m.Pairwise TagLe → (∀ t : Int, l.filter (fun x => x.fTag = t) = m.filter (fun x => x.fTag = t)) → l = m
 | [], [], _, _, _ => rfl
 | [], y :: m, _, _, h => by
  have := h y.fTag
  rw [List.filter_nil, uA, if_pos (by simp)] at this; cases this
 | x :: l, [], _, _, h => by
  have := h x.fTag
  rw [List.filter_nil, uA, if_pos (by simp)] at this; cases this
 | x :: l, y :: m, hl, hm, h => by
  rw [un] at hl hm
  have hxy : x.fTag = y.fTag := by
   have h1 : x ∈ (y :: m).filter (fun z => z.fTag = x.fTag) := by rw [← h, uA, if_pos (by simp)]; exact qp ..
   have h2 : y ∈ (x :: l).filter (fun z => z.fTag = y.fTag) := by rw [h, uA, if_pos (by simp)]; exact qp ..
   have a1 : y.fTag ≤ x.fTag := by
    rcases qM.1 (List.mem_filter.1 h1).1 with e | h1
    · rw [e]; exact Int.le_refl _
    exact hm.1 x h1
   have a2 : x.fTag ≤ y.fTag := by
    rcases qM.1 (List.mem_filter.1 h2).1 with e | h2
    · rw [e]; exact Int.le_refl _
    exact hl.1 y h2
   omega
  have e : x = y := by
   have := h x.fTag
   rw [uA, uA, if_pos (by simp), if_pos (by simp [hxy])] at this
   injection this
  subst e
  congr 1
  refine sorted_ext hl.2 hm.2 fun t => ?_
  have := h t
  rw [uA, uA] at this
  split at this
  · injection this
  exact this
theorem srt_of {l m : List GRaw} (hm : m.Pairwise TagLe) (h : ∀ t : Int, l.filter (fun x => x.fTag = t) = m.filter (fun x => x.fTag = t)) : srt l = m :=
 sorted_ext (srt_sorted l) hm fun t => by rw [srt_filter, h]
theorem ZL {α : Type} {A B : List α} {x : α} {i : Int} (h : i = A.length) : wW (A ++ x :: B) i = some x := by
 subst h
 rw [wW, if_pos (by omega), qV, ui (qt _), uN]; rfl
theorem idx_t {α : Type} {l : List α} {i : Int} {x : α} (h0 : 0 ≤ i) (h : l[i.toNat]? = some x) : wW l i = some x := by rw [wW, if_pos h0, h]
theorem sorted_l17 {r z : GRaw} {S P : List GRaw} (rec8 : Int → List GRaw → Option (List GRaw)) : ∀ (k : Nat) (A B : List GRaw), S = A ++ B → (∀ b ∈ B, r.fTag < b.fTag) → A.Pairwise TagLe → A.length < k → S.length < 1000000 →
 zN.l17 (S.length : Int) (S ++ z :: P) rec8 r k (A.length : Int) = rec8 ((S.length : Int) + 1) (vbg r S ++ P)
 | 0, _, _, _, _, _, h, _ => by omega
 | k + 1, A, B, hS, hB, hA, hk, hn => by
  have stop : (∀ a ∈ A, a.fTag ≤ r.fTag) → zN.j20 (S.length : Int) (S ++ z :: P) rec8 r (A.length : Int) (zN.l17 (S.length : Int) (S ++ z :: P) rec8 r k) false = rec8 ((S.length : Int) + 1) (vbg r S ++ P) := by
   intro hle
   have hl : S.length = A.length + B.length := by rw [hS, qi]
   have e1 : IntKind.i64.wrap ((A.length : Int) + 1) = ((A.length + 1 : Nat) : Int) := by rw [yF (by omega) (by omega)]; omega
   rw [zN.j20, if_neg (by decide), e1, YT (by rw [qi, qk]; omega), qg, YT (by rw [qi, qk]; omega), qg]
   have e2 : qK ((S.length : Int) + 1) = S.length + 1 := by omega
   rw [qV, qV, qV, e2, show min (S.length - A.length) (S.length + 1 - (A.length + 1)) = B.length by omega]
   have hc : ∃ w : GRaw, A.length < (S ++ z :: P).length ∧ Xi (S ++ z :: P) (A.length + 1) A.length B.length = A ++ w :: (B ++ P) := by
    cases hB' : B with
    | nil =>
     subst hB'
     rw [qA] at hS
     refine ⟨z, by rw [hS, qi, qk]; omega, ?_⟩
     rw [Xi, hS, ql, List.take_zero, qB, uR, List.drop_append, List.drop_eq_nil_of_le (by omega), List.take_append, uh (by omega)]
     rw [show A.length + 1 - A.length = 1 by omega]
     simp
    | cons b B' =>
     refine ⟨b, by rw [hS, hB', qi, qi, qk]; omega, ?_⟩
     rw [hS, hB', Xi]
     have t1 : ((A ++ b :: B') ++ z :: P).take (A.length + 1) = A ++ [b] := by
      rw [qq, List.take_append, uh (by omega), show A.length + 1 - A.length = 1 by omega]; rfl
     have t2 : (((A ++ b :: B') ++ z :: P).drop A.length).take (b :: B').length = b :: B' := by
      rw [qq, List.drop_left' rfl, List.take_left' rfl]
     have t3 : ((A ++ b :: B') ++ z :: P).drop (A.length + 1 + (b :: B').length) = P := by
      rw [show (A ++ b :: B') ++ z :: P = ((A ++ b :: B') ++ [z]) ++ P by rw [qq (A ++ b :: B')]; rfl]
      rw [List.drop_left']
      simp only [qi, qk, ql]; omega
     rw [t1, t2, t3]
     simp only [qq, qH, qB]
   obtain ⟨w, hlt, hc⟩ := hc
   rw [hc, ZL rfl, qg, setI, qV, List.set_append_right _ _ (qt _), uN, uB, hS, insR_app hle hB, qq]; rfl
  rcases List.eq_nil_or_concat A with rfl | ⟨A', a, rfl⟩
  · rw [zN.l17, if_neg (by simp)]
    exact stop (fun a ha => by cases ha)
  rw [List.concat_eq_append] at *
  have hlA : (A' ++ [a]).length = A'.length + 1 := by rw [qi, qG]
  have hlS : S.length = (A' ++ [a]).length + B.length := by rw [hS, qi]
  have e1 : IntKind.i64.wrap (((A' ++ [a]).length : Int) - 1) = (A'.length : Int) := by
   rw [yF (by omega) (by omega)]; omega
  rw [zN.l17, if_pos (by omega), e1]
  have ei : wW (S ++ z :: P) (A'.length : Int) = some a := by
   rw [hS, qq, qq]; exact ZL rfl
  rw [ei, qg]
  by_cases hgt : r.fTag < a.fTag
  · rw [decide_eq_true hgt, zN.j20, if_pos rfl, e1]
    refine sorted_l17 rec8 k A' (a :: B) (by rw [hS, qq]; rfl) ?_ (List.pairwise_append.1 hA).1 (by omega) hn
    intro b hb
    rcases qM.1 hb with rfl | hb
    · exact hgt
    exact hB b hb
  rw [decide_eq_false hgt]
  refine stop ?_
  intro x hx
  rcases ux.1 hx with hx | hx
  · have := (List.pairwise_append.1 hA).2.2 x hx a (uJ.2 rfl)
    unfold TagLe at this; omega
  rw [uJ] at hx; subst hx; omega
theorem sorted_l8 : ∀ (q S P : List GRaw), P.length = q.length → S.Pairwise TagLe → S.length + q.length < 1000000 → zN.l8 q (S.length : Int) (S ++ P) = some (srtA q S)
 | [], S, P, hP, _, _ => by
  have : P = [] := qC.1 (by simpa using hP)
  subst this
  rw [zN.l8, srtA, qA]
 | r :: q, S, [], hP, _, _ => by cases hP
 | r :: q, S, z :: P, hP, hS, hn => by
  rw [qk] at hn
  rw [zN.l8, sorted_l17 (S := S) (zN.l8 q) rounds S [] (qA S).symm (fun b hb => by cases hb) hS (ug (show S.length < 1000000 by omega) (by decide)) (by omega)]
  have e : (S.length : Int) + 1 = ((vbg r S).length : Int) := by rw [insR_len]; omega
  rw [e, sorted_l8 q (vbg r S) P (by simpa using hP) (ZK hS) (by rw [insR_len]; omega), srtA]
theorem sorted_eq {l : List GRaw} (h : l.length < 1000000) : zN l = some (srt l) := by
 rw [zN, YT (by omega), qg, qV]
 exact sorted_l8 l [] _ List.length_replicate List.Pairwise.nil (by rw [ql]; omega)
end
section
set_option maxRecDepth 4000
open AM
theorem ZV (s : List UInt8) (p : Nat) : 1 ≤ (Ya s p).2 := by
 unfold Ya Utf8.decode
 dsimp only
 repeat' split
 all_goals first | exact qt 1 | exact (by decide : 1 ≤ 2) | exact (by decide : 1 ≤ 3) | exact (by decide : 1 ≤ 4)
theorem runesNext_t (a : List UInt8) (n : Nat) (h : a.length ≤ 9223372036854775807) : ∃ r, wa a (n : Int) = some r := by
 unfold wa
 split
 · exact ⟨_, rfl⟩
 rename_i h1
 simp only [qQ, decide_eq_true_eq, not_or] at h1
 rw [YT (by omega), qg, bnd]
 split <;> exact ⟨_, rfl⟩
theorem vah (a : List UInt8) (h : a.length ≤ 9223372036854775807) : ∀ (k p : Nat), 0 < k → a.length < p + k → ∃ v, yz.l4 a k p = some v
 | 0, p, h0, hk => by omega
 | k + 1, p, _, hk => by
  have hd := ZV a p
  rw [yz.l4]
  split
  · have ih := vah a h k (p + (Ya a p).2) (by omega) (by omega)
    split
    · obtain ⟨r, e⟩ := runesNext_t a p h
      rw [e, qg]
      split
      · exact ⟨_, rfl⟩
      exact ih
    exact ih
  exact ⟨_, rfl⟩
theorem yM : 9223372036854775808 ≤ rounds := by decide
def va2 (b : List UInt8) : Bool := (yz b).getD false
theorem runesV_eq {a : List UInt8} (h : a.length ≤ 9223372036854775807) : yz a = some (va2 a) := by
 obtain ⟨v, e⟩ := vah a h rounds 0 (by have := yM; omega) (by have := yM; omega)
 unfold va2
 rw [show yz a = some v from e]; rfl
theorem xZ (t : Int) (l : List GTree) : (GEntry.mk t l).fTag = t := rfl
theorem wN (t : Int) (l : List GTree) : (GEntry.mk t l).fTrees = l := rfl
def YA (a b : GEntry) : Prop := a.fTag < b.fTag
def ZD (t : Int) (rep : Prop) [Decidable rep] (x : GTree) : List GEntry → List GEntry
 | [] => [⟨t, [x]⟩]
 | e :: l => if e.fTag < t then e :: ZD t rep x l else if e.fTag = t then ⟨t, (if rep then e.fTrees else []) ++ [x]⟩ :: l else ⟨t, [x]⟩ :: e :: l
def X3 (t : Int) (rep : Prop) [Decidable rep] : List GEntry → Nat
 | [] => 1
 | e :: l => if e.fTag < t then X3 t rep l else if e.fTag = t then (if rep then e.fTrees.length else 0) + 1 else 1
theorem vaE {t : Int} {rep : Prop} [Decidable rep] {x : GTree} {B : List GEntry} : ∀ {A : List GEntry}, (∀ a ∈ A, a.fTag < t) → ZD t rep x (A ++ B) = A ++ ZD t rep x B
 | [], _ => rfl
 | a :: A, h => by
  rw [qH, ZD, if_pos (h a (qp ..)), vaE fun b hb => h b (qr _ hb)]; rfl
theorem vaD {t : Int} {rep : Prop} [Decidable rep] {B : List GEntry} : ∀ {A : List GEntry}, (∀ a ∈ A, a.fTag < t) → X3 t rep (A ++ B) = X3 t rep B
 | [], _ => rfl
 | a :: A, h => by
  rw [qH, X3, if_pos (h a (qp ..)), vaD fun b hb => h b (qr _ hb)]
theorem splitE (t : Int) : ∀ {es : List GEntry}, es.Pairwise YA → ∃ A B, es = A ++ B ∧ (∀ a ∈ A, a.fTag < t) ∧ (∀ b ∈ B, t ≤ b.fTag)
 | [], _ => ⟨[], [], rfl, (fun _ h => by cases h), (fun _ h => by cases h)⟩
 | e :: es, h => by
  rw [un] at h
  by_cases he : e.fTag < t
  · obtain ⟨A, B, rfl, hA, hB⟩ := splitE t h.2
    refine ⟨e :: A, B, rfl, ?_, hB⟩
    intro a ha
    rcases qM.1 ha with rfl | ha
    · exact he
    exact hA a ha
  refine ⟨[], e :: es, rfl, (fun _ h => by cases h), ?_⟩
  intro b hb
  rcases qM.1 hb with rfl | hb
  · omega
  have := h.1 b hb; unfold YA at this; omega
theorem put1_eq {e : GEntry} {t : Int} (h1 : 1 ≤ e.fTag ∧ e.fTag ≤ 500) (h2 : 1 ≤ t ∧ t ≤ 500) : xD e t = e.fTag - t := by
 unfold xD; exact yF (by omega) (by omega)
theorem half {x y : Nat} (h : x + y < 9223372036854775808) : IntKind.i64.wrap (Int.fdiv (IntKind.u64.wrap (IntKind.i64.wrap ((x : Int) + (y : Int)))) (2 ^ (min (qK 1) 64))) = (((x + y) / 2 : Nat) : Int) := by
 rw [yF (x := (x : Int) + y) (by omega) (by omega), u64i (by omega) (by omega), show min (qK 1) 64 = 1 from rfl, Int.fdiv_eq_ediv_of_nonneg _ (by decide), yF (by omega) (by omega)]
 omega
def Yo (t : Int) : List GEntry → Bool
 | [] => false
 | b :: _ => decide (b.fTag = t)
theorem bs_l {t : Int} {A B : List GEntry} (ht : 1 ≤ t ∧ t ≤ 500) (hA : ∀ a ∈ A, a.fTag < t) (hB : ∀ b ∈ B, t ≤ b.fTag) (hr : ∀ e ∈ A ++ B, 1 ≤ e.fTag ∧ e.fTag ≤ 500) (hn : (A ++ B).length < 4611686018427387904) :
 ∀ (k x y : Nat), x ≤ A.length → A.length ≤ y → y ≤ (A ++ B).length → y < x + k → zp.l6 (A ++ B) t k (x : Int) (y : Int) = some ((A.length : Int), Yo t B)
 | 0, x, y, _, _, _, hk => by omega
 | k + 1, x, y, hx, hy, hl, hk => by
  rw [zp.l6]
  by_cases hlt : x < y
  · rw [if_pos (by omega), half (by omega)]
    have hm : (x + y) / 2 < (A ++ B).length := by omega
    rw [idx_t (by omega) (show (A ++ B)[qK (((x + y) / 2 : Nat) : Int)]? = some ((A ++ B)[(x + y) / 2]'hm) by rw [qV]; exact qW hm), qg, bnd, put1_eq (hr _ (List.getElem_mem hm)) ht]
    by_cases hc : (x + y) / 2 < A.length
    · have e : (A ++ B)[(x + y) / 2]'hm = A[(x + y) / 2]'hc := List.getElem_append_left hc
      have := hA _ (List.getElem_mem hc)
      rw [e, if_pos (by omega), yF (by omega) (by omega), show (((x + y) / 2 : Nat) : Int) + 1 = (((x + y) / 2 + 1 : Nat) : Int) by omega]
      exact bs_l ht hA hB hr hn k _ y (by omega) hy hl (by omega)
    have hlB : (x + y) / 2 - A.length < B.length := by rw [qi] at hm; omega
    have e : (A ++ B)[(x + y) / 2]'hm = B[(x + y) / 2 - A.length]'hlB := List.getElem_append_right (by omega)
    have := hB _ (List.getElem_mem hlB)
    rw [e, if_neg (by omega)]
    exact bs_l ht hA hB hr hn k x _ hx (by omega) (by omega) (by omega)
  have e : x = A.length := by omega
  subst e
  rw [if_neg (by omega)]
  cases B with
  | nil => rw [qA, if_neg (by omega)]; rfl
  | cons b B =>
   rw [if_pos (by rw [qi, qk]; omega), ZL rfl, qg, bnd, put1_eq (hr b (ut _ (qp ..))) ht, qg, Yo]
   congr 2
   exact decide_eq_decide.2 (by omega)
theorem decode_put_eq {es : List GEntry} {f : GField} {x : GTree} (hs : es.Pairwise YA) (hr : ∀ e ∈ es, 1 ≤ e.fTag ∧ e.fTag ≤ 500) (hf : 1 ≤ f.fTag ∧ f.fTag ≤ 500) (hn : es.length < 1000000) (ht : ∀ e ∈ es, e.fTrees.length < 1000000) :
 Yr es f x = some (ZD f.fTag (f.fLabel = 3) x es, decide (X3 f.fTag (f.fLabel = 3) es ≤ 64)) := by
 obtain ⟨A, B, rfl, hA, hB⟩ := splitE f.fTag hs
 have hln : (A ++ B).length = A.length + B.length := qi
 have bs : zp (A ++ B) f.fTag = some ((A.length : Int), Yo f.fTag B) := bs_l hf hA hB hr (by omega) rounds 0 (A ++ B).length (ul _) (by omega) (qt _) (by have := yM; omega)
 rw [Yr, bs, qg, vaE hA, vaD hA]
 have ins : ∀ (B : List GEntry), (A ++ B).length < 1000000 → Yo f.fTag B = false → (∀ b ∈ B, f.fTag ≤ b.fTag) → ((if ((A.length : Int), Yo f.fTag B).2 = true then some (A ++ B) else (grd (0 ≤ ((A.length : Int), Yo f.fTag B).1 ∧ ((A.length : Int), Yo f.fTag B).1 ≤ ((A ++ B).length : Int))).bind fun _ => (Yi ((A ++ B).length + 1) 32).bind fun _ => some ((A ++ B).take ((A.length : Int), Yo f.fTag B).1.toNat ++ ⟨f.fTag, []⟩ :: (A ++ B).drop ((A.length : Int), Yo f.fTag B).1.toNat)).bind fun es1 =>
  (wW es1 ((A.length : Int), Yo f.fTag B).1).bind fun e =>
  (Yi ((if f.fLabel = 3 then e.fTrees.length else 0) + 1) 80).bind fun _ =>
  some (es1.set ((A.length : Int), Yo f.fTag B).1.toNat ⟨e.fTag, (if f.fLabel = 3 then e.fTrees else []) ++ [x]⟩, decide ((((if f.fLabel = 3 then e.fTrees else []) ++ [x]).length : Int) ≤ 64))) = some (A ++ ⟨f.fTag, [x]⟩ :: B, true) := by
  intro B hln hh _
  have hl2 : (A ++ B).length = A.length + B.length := qi
  rw [hh]
  simp only [qV]
  rw [if_neg (by decide), YT (by omega), qg, xB (by omega), qg, qg, List.take_left' rfl, List.drop_left' rfl, ZL rfl, qg, xB (by rw [wN]; split <;> decide), qg, List.set_append_right _ _ (qt _), uN, uB]
  simp only [xZ, wN, ite_self, qB, qG]; rfl
 cases B with
 | nil =>
  rw [ins [] hn rfl (fun _ h => by cases h)]; rfl
 | cons b B =>
  have hb := hB b (qp ..)
  by_cases hbt : b.fTag = f.fTag
  · have hh : Yo f.fTag (b :: B) = true := decide_eq_true hbt
    have htb := ht b (ut _ (qp ..))
    rw [hh]
    simp only [qV]
    rw [if_pos trivial, qg, ZL rfl, qg, xB (by split <;> omega), qg, List.set_append_right _ _ (qt _), uN, uB, ZD, if_neg (show ¬ b.fTag < f.fTag by omega), if_pos hbt, X3, if_neg (show ¬ b.fTag < f.fTag by omega), if_pos hbt, hbt]
    congr 2
    refine decide_eq_decide.2 ?_
    rw [qi, qG]
    by_cases h3 : f.fLabel = 3
    · rw [if_pos h3, if_pos h3]; omega
    rw [if_neg h3, if_neg h3, ql]; omega
  have hh : Yo f.fTag (b :: B) = false := decide_eq_false hbt
  rw [ins (b :: B) hn hh hB, ZD, if_neg (by omega), if_neg hbt, X3, if_neg (by omega), if_neg hbt]; rfl
theorem putE_mem {t : Int} {rep : Prop} [Decidable rep] {x : GTree} {e : GEntry} : ∀ {es : List GEntry}, e ∈ ZD t rep x es → e ∈ es ∨ e.fTag = t
 | [], h => by rw [ZD, uJ] at h; subst h; exact Or.inr rfl
 | a :: es, h => by
  rw [ZD] at h; split at h
  · rcases qM.1 h with rfl | h
    · exact Or.inl (qp ..)
    rcases putE_mem h with h | h
    · exact Or.inl (qr _ h)
    exact Or.inr h
  split at h
  · rcases qM.1 h with rfl | h
    · exact Or.inr rfl
    exact Or.inl (qr _ h)
  rcases qM.1 h with rfl | h
  · exact Or.inr rfl
  exact Or.inl h
theorem va8 {t : Int} {rep : Prop} [Decidable rep] {x : GTree} : ∀ {es : List GEntry}, es.Pairwise YA → (ZD t rep x es).Pairwise YA
 | [], _ => by simp [ZD]
 | a :: es, h => by
  rw [un] at h
  rw [ZD]; split
  · rename_i hlt
    rw [un]
    refine ⟨?_, va8 h.2⟩
    intro b hb
    rcases putE_mem hb with hb | hb
    · exact h.1 b hb
    unfold YA; omega
  split
  · rename_i hge heq
    rw [un]
    refine ⟨?_, h.2⟩
    intro b hb
    have := h.1 b hb; unfold YA at *; simp only [xZ]; omega
  rename_i hge hne
  rw [un, un]
  refine ⟨?_, h⟩
  intro b hb
  rcases qM.1 hb with rfl | hb
  · unfold YA; simp only [xZ]; omega
  have := h.1 b hb; unfold YA at *; simp only [xZ]; omega
theorem putE_len {t : Int} {rep : Prop} [Decidable rep] {x : GTree} : ∀ {es : List GEntry}, (ZD t rep x es).length ≤ es.length + 1
 | [] => by rw [ZD]; exact qt _
 | a :: es => by
  rw [ZD]; split
  · rw [qk, qk]; have := putE_len (t := t) (rep := rep) (x := x) (es := es); omega
  split <;> simp only [qk] <;> omega
theorem putE_all {t : Int} {rep : Prop} [Decidable rep] {x : GTree} {e : GEntry} : ∀ {es : List GEntry}, e ∈ ZD t rep x es → e ∈ es ∨ (e.fTag = t ∧ e.fTrees.length = X3 t rep es ∧ e.fTrees ≠ [])
 | [], h => by rw [ZD, uJ] at h; subst h; exact Or.inr ⟨rfl, rfl, by rw [wN]; simp⟩
 | a :: es, h => by
  rw [ZD] at h; rw [X3]; split at h
  · rename_i hlt
    rw [if_pos hlt]
    rcases qM.1 h with rfl | h
    · exact Or.inl (qp ..)
    rcases putE_all h with h | h
    · exact Or.inl (qr _ h)
    exact Or.inr h
  rename_i hlt
  rw [if_neg hlt]
  split at h
  · rename_i heq
    rw [if_pos heq]
    rcases qM.1 h with rfl | h
    · refine Or.inr ⟨rfl, ?_, by rw [wN]; simp⟩
      simp only [wN, qi, qG]; split <;> rfl
    exact Or.inl (qr _ h)
  rename_i hne
  rw [if_neg hne]
  rcases qM.1 h with rfl | h
  · exact Or.inr ⟨rfl, rfl, by rw [wN]; simp⟩
  exact Or.inl h
def YW : GTree := ⟨0, 0, [], [], []⟩
def isZ (m : GMessage) (e : GEntry) : Bool := decide ((zl m e.fTag).1.fLabel = 1) && xC (e.fTrees.headD YW)
def zdel (m : GMessage) (es : List GEntry) : List GEntry := es.filter fun e => !isZ m e
theorem XQ {m : GMessage} : ∀ {es : List GEntry}, (∀ e ∈ es, e.fTrees ≠ []) → wu m es = some (zdel m es)
 | [], _ => rfl
 | e :: es, h => by
  have he := h e (qp ..)
  rw [wu, xb, bnd]
  have e1 : (if (zl m e.fTag).1.fLabel = 1 then (wW e.fTrees 0).bind fun y2 => bnd (xC y2) fun r5 => some r5 else some false) = some (isZ m e) := by
   unfold isZ
   split
   · rename_i hl
     cases ht : e.fTrees with
     | nil => exact absurd ht he
     | cons a l =>
      rw [idx_t (Int.le_refl 0) (show (a :: l)[qK 0]? = some a from rfl), qg, bnd, hl]; rfl
   rename_i hl
   rw [decide_eq_false hl, Bool.false_and]
  rw [e1, qg, qg, XQ fun a ha => h a (qr _ ha), qg]
  unfold zdel; rw [uA]
  cases isZ m e <;> rfl
def Xo (m : GMessage) (one : GType → GRaw → GTree × Int) : List GRaw → List GEntry → List GRaw → GTree × Int
 | [], es, rest => (⟨3, 0, [], zdel m es, srt rest⟩, 0)
 | r :: q, es, rest =>
  if (zl m r.fTag).2 = true then
   (if (one (zl m r.fTag).1.fType r).2 = 0 then
    (if X3 r.fTag ((zl m r.fTag).1.fLabel = 3) es ≤ 64 then Xo m one q (ZD r.fTag ((zl m r.fTag).1.fLabel = 3) (one (zl m r.fTag).1.fType r).1 es) rest else (YW, 4))
   else (YW, (one (zl m r.fTag).1.fType r).2))
  else Xo m one q es (rest ++ [r])
theorem Xq {m : GMessage} {t : Int} (h : (zl m t).2 = true) : (zl m t).1.fTag = t ∧ (zl m t).1 ∈ m.fFields := by
 have key : ∀ (l : List GField) (i : Int), (zl.l4 t l i).2 = true → (zl.l4 t l i).1.fTag = t ∧ (zl.l4 t l i).1 ∈ l := by
  intro l
  induction l with
  | nil => intro i h; cases h
  | cons f l ih =>
   intro i h
   rw [zl.l4] at h ⊢
   split at h
   · rename_i hf
     rw [if_pos hf]; exact ⟨hf, qp ..⟩
   rename_i hf
   rw [if_neg hf]
   obtain ⟨h1, h2⟩ := ih _ h
   exact ⟨h1, qr _ h2⟩
 exact key m.fFields 0 h
theorem fldD_eq {self : GSchema → GType → GRaw → Int → Option (GTree × Int)} {s : GSchema} {m : GMessage} {deep : Int} {one : GType → GRaw → GTree × Int} :
 ∀ {l : List GRaw} {es : List GEntry} {rest : List GRaw}, (∀ r ∈ l, 1 ≤ r.fTag ∧ r.fTag ≤ 500) → (∀ r ∈ l, ∀ y, self s y r deep = some (one y r)) → es.Pairwise YA → (∀ e ∈ es, (1 ≤ e.fTag ∧ e.fTag ≤ 500) ∧ e.fTrees ≠ [] ∧ e.fTrees.length ≤ 64) → es.length + l.length < 100000 → rest.length + l.length < 100000 →
 zy.l self s m deep l es rest = some (Xo m one l es rest)
 | [], es, rest, _, _, _, he, hn, hn' => by
  rw [zy.l, xB (by simp only [ql] at hn; omega), qg, XQ fun e h => (he e h).2.1, qg, sorted_eq (by simp only [ql] at hn'; omega), qg, Xo]
 | r :: l, es, rest, ht, ho, hs, he, hn, hn' => by
  rw [qk] at hn hn'
  have hr := ht r (qp ..)
  have ht' : ∀ r ∈ l, 1 ≤ r.fTag ∧ r.fTag ≤ 500 := fun x hx => ht x (qr _ hx)
  have ho' : ∀ r ∈ l, ∀ y, self s y r deep = some (one y r) := fun x hx => ho x (qr _ hx)
  rw [zy.l, bnd, Xo]
  by_cases hf : (zl m r.fTag).2 = true
  · obtain ⟨hft, _⟩ := Xq hf
    rw [if_pos hf, if_pos hf, ho r (qp ..), qg]
    by_cases h0 : (one (zl m r.fTag).1.fType r).2 = 0
    · rw [if_pos h0, if_pos h0, decode_put_eq hs (fun e h => (he e h).1) (by rw [hft]; exact hr) (by omega) (fun e h => by have := (he e h).2.2; omega), qg, hft]
      by_cases hp : X3 r.fTag ((zl m r.fTag).1.fLabel = 3) es ≤ 64
      · rw [if_pos hp, if_pos (decide_eq_true hp)]
        refine fldD_eq (es := ZD r.fTag ((zl m r.fTag).1.fLabel = 3) (one (zl m r.fTag).1.fType r).1 es) ht' ho' (va8 hs) ?_ (by have := putE_len (t := r.fTag) (rep := (zl m r.fTag).1.fLabel = 3) (x := (one (zl m r.fTag).1.fType r).1) (es := es); omega) (by omega)
        intro e h
        rcases putE_all h with h | ⟨h1, h2, h3⟩
        · exact he e h
        exact ⟨by rw [h1]; exact hr, h3, by omega⟩
      rw [if_neg hp, if_neg (by simpa using hp)]; rfl
    rw [if_neg h0, if_neg h0]; rfl
  rw [if_neg hf, if_neg hf, xB (by omega), qg]
  exact fldD_eq ht' ho' hs he (by omega) (by rw [qi, qG]; omega)
def vav (s : GSchema) (n : List UInt8) : GMessage := (zD s n).1
def oneD (msg : GMessage → List UInt8 → GTree × Int) (s : GSchema) (y : GType) (r : GRaw) : GTree × Int :=
 if (if y.fKind = 4 ∨ y.fKind = 5 ∨ y.fKind = 7 then r.fWire = 1 else r.fWire = 0) then
  (if y.fKind = 3 ∨ y.fKind = 6 then (if xr y r.fN = true then (⟨1, r.fN, [], [], []⟩, 0) else (YW, 11))
  else if y.fKind = 4 then (if va2 r.fB = true then (⟨2, 0, r.fB, [], []⟩, 0) else (YW, 9))
  else if y.fKind = 7 then msg (vav s y.fName) r.fB
  else (if r.fWire = 1 then ⟨2, 0, r.fB, [], []⟩ else ⟨1, r.fN, [], [], []⟩, 0))
 else (YW, 8)
theorem oneD_eq {self : GSchema → GMessage → List UInt8 → Int → Option (GTree × Int)} {self2 : GSchema → GType → GRaw → Int → Option (GTree × Int)} {s : GSchema} {y : GType} {r : GRaw} {deep : Int} {msg : GMessage → List UInt8 → GTree × Int} (hw : r.fWire = 0 ∨ r.fWire = 1) (hb : r.fB.length ≤ 4096) (hd : deep < 1000) (hd' : 0 ≤ deep) (hs : self s (vav s y.fName) r.fB (deep + 1) = some (msg (vav s y.fName) r.fB)) :
 zR.body self self2 s y r deep = some (oneD msg s y r) := by
 have hv := runesV_eq (a := r.fB) (by omega)
 have ed : IntKind.i64.wrap (deep + 1) = deep + 1 := yF (by omega) (by omega)
 have hm : ∀ z : GTree × Int, some (z.1, z.2) = some z := fun z => rfl
 unfold zR.body zR.j2 zR.j26 zR.j3 zR.j6 zR.j4 oneD bnd
 unfold vav at hs ⊢
 simp only [YT (show r.fB.length ≤ 9223372036854775807 by omega), hv, ed, qg, hs]
 rcases hw with hw | hw <;> simp only [hw, reduceIte, reduceCtorEq, Int.reduceEq] <;>
  by_cases k4 : y.fKind = 4 <;> by_cases k5 : y.fKind = 5 <;> by_cases k7 : y.fKind = 7 <;> by_cases k3 : y.fKind = 3 <;> by_cases k6 : y.fKind = 6 <;>
  first
   | (exfalso; omega)
   | (simp only [k4, k5, k7, k3, k6, reduceIte, reduceCtorEq, Int.reduceEq, decide_true, decide_false, or_true, true_or, or_false, false_or, or_self, q1] <;> first | rfl | (cases xr y r.fN <;> rfl) | (cases va2 r.fB <;> rfl))
def getD (b : List UInt8) : List GRaw × Int := (xm b).getD ([], 99)
theorem getD_eq (b : List UInt8) : xm b = some (getD b) := by
 obtain ⟨r, e, _⟩ := vaf b
 unfold getD; rw [e]; rfl
theorem getD_ok {b : List UInt8} (h : (getD b).2 = 0) : b = ZC (getD b).1 ∧ b.length ≤ 4096 ∧ ∀ x ∈ (getD b).1, YR x := by
 obtain ⟨r, e, i, _⟩ := vaf b
 rw [getD_eq] at e
 obtain rfl := Option.some.inj e
 exact i h
theorem rawsB_len2 : ∀ l : List GRaw, 2 * l.length ≤ (ZC l).length
 | [] => ul _
 | r :: l => by
  rw [X1, qi, qk]
  have := rawsB_len2 l; have := rawB_pos r; omega
def decM (s : GSchema) : Nat → GMessage → List UInt8 → GTree × Int
 | 0, _, _ => (YW, 10)
 | d + 1, m, b => if (getD b).2 = 0 then Xo m (oneD (decM s d) s) (getD b).1 [] [] else (YW, (getD b).2)
theorem Ys (s : GSchema) : ∀ (d k : Nat) (m : GMessage) (b : List UInt8) (deep : Int), d ≤ 10 → deep = 11 - d → 2 * d + 1 ≤ k → zy k s m b deep = some (decM s d m b)
 | d, 0, m, b, deep, _, _, h => by omega
 | 0, k + 1, m, b, deep, _, h, _ => by
  rw [zy, zy.body, if_pos (by omega)]; rfl
 | d + 1, k + 1, m, b, deep, h10, hd, hk => by
  rw [zy, zy.body, if_neg (by omega), getD_eq, qg, decM]
  by_cases h0 : (getD b).2 = 0
  · rw [if_pos h0, if_pos h0]
    obtain ⟨hb, hl, hok⟩ := getD_ok h0
    have hlen : (getD b).1.length < 100000 := by
     have := rawsB_len2 (getD b).1
     rw [← hb] at this; omega
    refine fldD_eq ?_ ?_ List.Pairwise.nil (fun _ h => by cases h) (by rw [ql]; omega) (by rw [ql]; omega)
    · intro r hr
      have := YL (hok r hr).1
      exact ⟨this.1, this.2.1⟩
    intro r hr y
    obtain ⟨k', rfl⟩ : ∃ k', k = k' + 1 := ⟨k - 1, by omega⟩
    rw [zR]
    have hc := (YL (hok r hr).1).2.2
    have hbl : r.fB.length ≤ 4096 := by
     rcases hc with ⟨_, hc⟩ | ⟨_, _, hc⟩
     · rw [hc]; decide
     exact hc
    refine oneD_eq (by rcases hc with hc | hc; exact Or.inl hc.1; exact Or.inr hc.1) hbl (by omega) (by omega) ?_
    exact Ys s d k' _ _ _ (by omega) (by omega) (by omega)
  rw [if_neg h0, if_neg h0]; rfl
theorem decode_eq {s : GSchema} {name b : List UInt8} (hc : zw s = some 0) (hm : (zD s name).2 = true) : xg s name b = some (decM s 10 (vav s name) b) := by
 rw [xg, hc, qg, if_pos rfl, bnd, hm, if_neg (by decide), Ys s 10 rounds _ b 1 (qt _) rfl (by have := yM; omega), qg]; rfl
end
section
set_option maxRecDepth 4000
open AM
def maxD (f : GTree → Nat) : List GTree → Nat → Nat
 | [], d => d
 | x :: l, d => maxD f l (max d (f x))
theorem maxD_ge {f : GTree → Nat} : ∀ (l : List GTree) (d : Nat), d ≤ maxD f l d
 | [], d => qt _
 | x :: l, d => uq (Nat.le_max_left _ _) (maxD_ge l _)
theorem maxD_mem {f : GTree → Nat} {x : GTree} : ∀ {l : List GTree} {d : Nat}, x ∈ l → f x ≤ maxD f l d
 | y :: l, d, h => by
  rw [maxD]
  rcases qM.1 h with rfl | h
  · exact uq (Nat.le_max_right _ _) (maxD_ge l _)
  exact maxD_mem h
theorem maxD_le {f : GTree → Nat} {n : Nat} : ∀ {l : List GTree} {d : Nat}, d ≤ n → (∀ x ∈ l, f x ≤ n) → maxD f l d ≤ n
 | [], d, h, _ => h
 | x :: l, d, h, hl => maxD_le (l := l) (Nat.max_le.2 ⟨h, hl x (qp ..)⟩) fun y hy => hl y (qr _ hy)
theorem maxD_app (f : GTree → Nat) : ∀ (l m : List GTree) (d : Nat), maxD f (l ++ m) d = maxD f m (maxD f l d)
 | [], _, _ => rfl
 | x :: l, m, d => maxD_app f l m _
def kids (t : GTree) : List GTree := t.fEntries.flatMap GEntry.fTrees
def vbp : Nat → GTree → Nat
 | 0, _ => 0
 | m + 1, t => if t.fKind = 3 then maxD (vbp m) (kids t) 0 + 1 else 0
theorem depT_le : ∀ (m : Nat) (t : GTree), vbp m t ≤ m
 | 0, _ => qt _
 | m + 1, t => by
  rw [vbp]; split
  · exact Nat.succ_le_succ (maxD_le (ul _) fun x _ => depT_le m x)
  exact ul _
theorem deep_l20 {self : GTree → Int → Option Int} {m : Nat} (hm : m < 1000) (hs : ∀ x, self x (m : Int) = some ((vbp m x : Nat) : Int)) {x7 : Int} {rec10 : Int → Int → Option Int} : ∀ (l : List GTree) (i : Int) (d : Nat),
 zX.l20 self ((m + 1 : Nat) : Int) x7 rec10 l i (d : Int) = rec10 (x7 + 1) ((maxD (vbp m) l d : Nat) : Int)
 | [], i, d => rfl
 | x :: l, i, d => by
  rw [zX.l20, show IntKind.i64.wrap (((m + 1 : Nat) : Int) - 1) = (m : Int) by rw [yF (by omega) (by omega)]; omega, hs, qg, maxD]
  have e : (if (d : Int) < ((vbp m x : Nat) : Int) then ((vbp m x : Nat) : Int) else (d : Int)) = ((max d (vbp m x) : Nat) : Int) := by split <;> omega
  rw [e]; exact deep_l20 hm hs l _ _
theorem deep_l10 {self : GTree → Int → Option Int} {m : Nat} (hm : m < 1000) (hs : ∀ x, self x (m : Int) = some ((vbp m x : Nat) : Int)) : ∀ (l : List GEntry) (i : Int) (d : Nat), d ≤ 1000 →
 zX.l10 self ((m + 1 : Nat) : Int) l i (d : Int) = some ((maxD (vbp m) (l.flatMap GEntry.fTrees) d + 1 : Nat) : Int)
 | [], i, d, hd => by
  rw [zX.l10, yF (by omega) (by omega), uj, maxD]; rfl
 | e :: l, i, d, hd => by
  rw [zX.l10, deep_l20 hm hs, deep_l10 hm hs l _ _ (maxD_le hd fun x _ => uq (depT_le m x) (by omega)), qT, maxD_app]
theorem deep_eq : ∀ (m k : Nat) (t : GTree), m < 1000 → m < k → zX k t (m : Int) = some ((vbp m t : Nat) : Int)
 | m, 0, t, _, h => by omega
 | 0, k + 1, t, _, _ => by
  rw [zX, zX.body, if_pos (by simp)]; rfl
 | m + 1, k + 1, t, hm, hk => by
  rw [zX, zX.body, vbp]
  by_cases h3 : t.fKind = 3
  · rw [if_neg (by simp only [h3, decide_true, qI, uL, decide_eq_true_eq]; omega), if_pos h3]
    exact deep_l10 (by omega) (fun x => deep_eq m k x (by omega) (by omega)) t.fEntries 0 0 (by omega)
  rw [if_pos (by simp [h3]), if_neg h3]; rfl
theorem Depth_eq (t : GTree) : wm t = some ((vbp 101 t : Nat) : Int) := by
 rw [wm, show (101 : Int) = ((101 : Nat) : Int) from rfl, deep_eq 101 rounds t (by omega) (by have := yM; omega)]; rfl
def risB : List GRaw → Bool
 | a :: b :: l => decide (a.fTag ≤ b.fTag) && risB (b :: l)
 | _ => true
theorem risB_iff : ∀ {l : List GRaw}, risB l = true ↔ l.Pairwise TagLe
 | [] => by simp [risB]
 | [a] => by simp [risB]
 | a :: b :: l => by
  rw [risB, qm, decide_eq_true_eq, risB_iff, un (a := a)]
  constructor
  · rintro ⟨h1, h2⟩
    refine ⟨?_, h2⟩
    intro c hc
    rcases qM.1 hc with rfl | hc
    · exact h1
    have := (un.1 h2).1 c hc; unfold TagLe at *; omega
  rintro ⟨h1, h2⟩
  exact ⟨h1 b (qp ..), h2⟩
theorem rising_l {L : List GRaw} (hL : L.length < 4611686018427387904) : ∀ (k : Nat) (A : List GRaw) (a : GRaw) (B : List GRaw), L = A ++ a :: B → B.length < k → xj.l4 L k ((A.length + 1 : Nat) : Int) = some (risB (a :: B))
 | 0, _, _, _, _, h => by omega
 | k + 1, A, a, [], h, _ => by
  rw [xj.l4, if_neg (by rw [h, qi, qG]; omega)]; rfl
 | k + 1, A, a, b :: B, h, hk => by
  have hl : L.length = A.length + (B.length + 2) := by rw [h, qi, qk, qk]
  have e1 : wW L ((A.length + 1 : Nat) : Int) = some b := by
   rw [h, show A ++ a :: b :: B = (A ++ [a]) ++ b :: B by rw [qq]; rfl]
   exact ZL (by rw [qi, qG])
  have e2 : IntKind.i64.wrap (((A.length + 1 : Nat) : Int) - 1) = (A.length : Int) := by rw [yF (by omega) (by omega)]; omega
  have e3 : wW L (A.length : Int) = some a := by rw [h]; exact ZL rfl
  have e4 : IntKind.i64.wrap (((A.length + 1 : Nat) : Int) + 1) = (((A ++ [a]).length + 1 : Nat) : Int) := by rw [yF (by omega) (by omega), qi, qG]; omega
  rw [xj.l4, if_pos (by omega), e1, qg, e2, e3, qg, risB]
  by_cases hlt : b.fTag < a.fTag
  · rw [if_pos hlt, decide_eq_false (by omega)]; rfl
  rw [if_neg hlt, e4, rising_l hL k (A ++ [a]) b B (by rw [h, qq]; rfl) (by simpa using hk), decide_eq_true (by omega), uE]
theorem rising_eq {l : List GRaw} (h : l.length < 4611686018427387904) : xj l = some (risB l) := by
 cases l with
 | nil => rfl
 | cons a l => exact rising_l h rounds [] a l rfl (by have := yM; rw [qk] at h; omega)
def restB (t : GTree) : Bool := t.fRest.all (fun r => yD r && !(t.fEntries.any fun e => decide (e.fTag = r.fTag))) && risB t.fRest
theorem rest_l16 {x2 : Int} {rec4 : Int → Option Bool} {y : GRaw} : ∀ (l : List GEntry) (i : Int), yB.l16 x2 rec4 y l i = if (l.any fun e => decide (e.fTag = y.fTag)) = true then some false else rec4 (x2 + 1)
 | [], i => by rw [yB.l16]; rfl
 | e :: l, i => by
  rw [yB.l16, List.any_cons]
  by_cases h : e.fTag = y.fTag
  · rw [if_pos h, decide_eq_true h, Bool.true_or, if_pos rfl]
  rw [if_neg h, decide_eq_false h, uL, rest_l16]
theorem rest_l4 {t : GTree} (hr : t.fRest.length < 4611686018427387904) : ∀ (l : List GRaw) (i : Int), yB.l4 t l i = some (l.all (fun r => yD r && !(t.fEntries.any fun e => decide (e.fTag = r.fTag))) && risB t.fRest)
 | [], i => by rw [yB.l4, rising_eq hr]; rfl
 | r :: l, i => by
  rw [yB.l4, bnd, q5]
  cases hc : yD r with
  | false => rfl
  | true =>
   rw [if_neg (by decide), rest_l16]
   cases ha : t.fEntries.any fun e => decide (e.fTag = r.fTag) with
   | true => rfl
   | false => rw [if_neg (by decide), rest_l4 hr l]; rfl
theorem rest_eq {t : GTree} (hr : t.fRest.length < 4611686018427387904) : yB t = some (restB t) := rest_l4 hr _ _
def entB (f : GTree → Bool) : Int → List GEntry → Bool
 | _, [] => true
 | last, e :: l => decide (last < e.fTag ∧ e.fTag ≤ 500 ∧ 1 ≤ e.fTrees.length ∧ e.fTrees.length ≤ 64) && (e.fTrees.all fun x => decide (x.fKind = (e.fTrees.headD YW).fKind) && f x) && entB f e.fTag l
def leafB (t : GTree) : Bool :=
 if t.fKind = 1 then decide (t.fS = []) && decide ((qc t.fEntries : Int) = 0) && decide ((qc t.fRest : Int) = 0)
 else if t.fKind = 2 then decide (t.fN = 0) && decide ((qc t.fEntries : Int) = 0) && decide ((qc t.fRest : Int) = 0)
 else false
def wv : Nat → GTree → Bool
 | 0, t => leafB t
 | d + 1, t => if t.fKind = 3 then decide (t.fN = 0) && decide (t.fS = []) && entB (wv d) 0 t.fEntries && restB t else leafB t
def ownS (t : GTree) : Prop := In64 t.fN ∧ t.fRest.length ≤ 900000 ∧ ∀ r ∈ t.fRest, In64 r.fN
def szT : Nat → GTree → Prop
 | 0, t => ownS t
 | d + 1, t => ownS t ∧ ∀ x ∈ kids t, szT d x
theorem vbo {self : GTree → Option Bool} {f : GTree → Bool} {x3 : Int} {rec6 : Int → Int → Option Bool} {y : GEntry} (hy : 1 ≤ y.fTrees.length) : ∀ (l : List GTree) (i : Int), (∀ x ∈ l, self x = some (f x)) →
 zv.l18 self x3 rec6 y l i = if (l.all fun x => decide (x.fKind = (y.fTrees.headD YW).fKind) && f x) = true then rec6 (x3 + 1) y.fTag else some false
 | [], i, _ => by rw [zv.l18]; rfl
 | x :: l, i, h => by
  have e1 : wW y.fTrees 0 = some (y.fTrees.headD YW) := by
   cases ht : y.fTrees with
   | nil => rw [ht] at hy; exact absurd hy (by decide)
   | cons a l => rfl
  rw [zv.l18, e1, qg, q5]
  by_cases hk : x.fKind = (y.fTrees.headD YW).fKind
  · rw [if_pos hk, h x (qp ..), qg, decide_eq_true hk, uE]
    cases f x with
    | false => rfl
    | true =>
     rw [zv.j25, if_neg (by decide), vbo hy l _ fun z hz => h z (qr _ hz), uE]
  rw [if_neg hk, decide_eq_false hk]; rfl
theorem entries_l6 {self : GTree → Option Bool} {f : GTree → Bool} : ∀ (l : List GEntry) (i last : Int), (∀ e ∈ l, ∀ x ∈ e.fTrees, self x = some (f x)) → zv.l6 self l i last = some (entB f last l)
 | [], i, last, _ => rfl
 | e :: l, i, last, h => by
  rw [zv.l6, entB]
  by_cases hc : last < e.fTag ∧ e.fTag ≤ 500 ∧ 1 ≤ e.fTrees.length ∧ e.fTrees.length ≤ 64
  · rw [if_neg (by simp only [qQ, decide_eq_true_eq]; omega), vbo hc.2.2.1 e.fTrees 0 (h e (qp ..)), decide_eq_true hc, uE]
    cases ha : e.fTrees.all fun x => decide (x.fKind = (e.fTrees.headD YW).fKind) && f x with
    | false => rfl
    | true => rw [if_pos rfl, entries_l6 l _ _ fun y hy => h y (qr _ hy), uE]
  rw [if_pos (by simp only [qQ, decide_eq_true_eq]; omega), decide_eq_false hc]; rfl
theorem YG {t : GTree} {e : GEntry} {x : GTree} (he : e ∈ t.fEntries) (hx : x ∈ e.fTrees) : x ∈ kids t := List.mem_flatMap.2 ⟨e, he, hx⟩
theorem right_eq : ∀ (d m k : Nat) (t : GTree), d < m → vbp m t ≤ d → 2 * d < k → szT d t → yS k t = some (wv d t)
 | d, m, 0, t, _, _, h, _ => by omega
 | 0, m + 1, k + 1, t, _, hd, _, hz => by
  have h3 : ¬ t.fKind = 3 := by
   intro h; rw [vbp, if_pos h] at hd; omega
  rw [yS, yS.body, wv, leafB, if_neg h3]
  split <;> first | rfl | (split <;> rfl)
 | d + 1, m + 1, k + 1, t, hm, hd, hk, hz => by
  rw [yS, yS.body, wv]
  by_cases h3 : t.fKind = 3
  · have hd' : maxD (vbp m) (kids t) 0 ≤ d := by rw [vbp, if_pos h3] at hd; omega
    obtain ⟨k', rfl⟩ : ∃ k', k = k' + 1 := ⟨k - 1, by omega⟩
    have he : zv (k' + 1) t = some (entB (wv d) 0 t.fEntries) := by
     rw [zv, zv.body]
     exact entries_l6 t.fEntries 0 0 fun e he x hx => right_eq d m k' x (by omega) (uq (maxD_mem (YG he hx)) hd') (by omega) (hz.2 x (YG he hx))
    rw [if_neg (by omega), if_neg (by omega), if_pos h3, if_pos h3, he, rest_eq (by have := hz.1.2.1; omega)]
    cases decide (t.fN = 0) && decide (t.fS = []) with
    | false => rfl
    | true => cases entB (wv d) 0 t.fEntries <;> rfl
  rw [if_neg h3, if_neg h3, leafB]
  split <;> first | rfl | (split <;> rfl)
def Yv (t : GTree) : Bool := decide (vbp 101 t ≤ 10) && wv 10 t
theorem check_eq {t : GTree} (hz : szT 10 t) : wn t = some (Yv t) := by
 rw [wn, Depth_eq, qg, Yv]
 by_cases h : vbp 101 t ≤ 10
 · rw [if_pos (by omega), right_eq 10 101 rounds t (by omega) h (by have := yM; omega) hz, decide_eq_true h, uE]; rfl
 rw [if_neg (by omega), decide_eq_false h]; rfl
end
section
set_option maxRecDepth 4000
open AM
theorem in0 : In64 0 := ⟨by decide, by decide⟩
def rawT (enc : GTree → Option (List UInt8)) (tag : Int) (x : GTree) : Option GRaw :=
 if x.fKind = 1 then some ⟨tag, 0, x.fN, []⟩
 else if x.fKind = 2 then (if 4096 < x.fS.length then none else some ⟨tag, 1, 0, x.fS⟩)
 else (enc x).bind fun b => some ⟨tag, 1, 0, b⟩
def rawL (enc : GTree → Option (List UInt8)) (tag : Int) : List GTree → Option (List GRaw)
 | [] => some []
 | x :: l => (rawT enc tag x).bind fun r => (rawL enc tag l).bind fun m => some (r :: m)
def rawE (enc : GTree → Option (List UInt8)) : List GEntry → Option (List GRaw)
 | [] => some []
 | e :: l => (rawL enc e.fTag e.fTrees).bind fun a => (rawE enc l).bind fun m => some (a ++ m)
def putB (l : List GRaw) : Option (List UInt8) := if 4096 < (ZC l).length then none else some (ZC l)
def XW : Nat → GTree → Option (List UInt8)
 | 0, _ => none
 | d + 1, t => (rawE (XW d) t.fEntries).bind fun L => putB (srt (t.fRest ++ L))
def Xj : Nat → GTree → GValueValue
 | 0, t => if t.fKind = 1 then .num t.fN else if t.fKind = 2 then .str t.fS else .node [] t.fRest
 | d + 1, t => if t.fKind = 1 then .num t.fN else if t.fKind = 2 then .str t.fS else .node (t.fEntries.map fun e => ⟨e.fTag, e.fTrees.map (Xj d)⟩) t.fRest
theorem made_l62 {self : GTree → Option GValueValue} {f : GTree → GValueValue} {t : GTree} {r12 : List GRaw} {y : GEntry} : ∀ (l : List GTree) (i : Int) (acc : List GValueValue), (∀ x ∈ l, self x = some (f x)) → acc.length + l.length ≤ 64 →
 zM.l62 self t r12 y l i acc = zM.l20 self t r12 rounds [⟨y.fTag, acc ++ l.map f⟩] 1
 | [], i, acc, _, _ => by
  rw [zM.l62, qv, qA, yF (by decide) (by decide)]; rfl
 | x :: l, i, acc, h, hl => by
  rw [qk] at hl
  rw [zM.l62, h x (qp ..), qg, xB (by omega), qg, made_l62 l _ _ (fun z hz => h z (qr _ hz)) (by rw [qi, qG]; omega), qq]; rfl
theorem made_l35 {self : GTree → Option GValueValue} {f : GTree → GValueValue} {l14 : List GValueEntry} {x16 : Int} {rec20 : List GValueEntry → Int → Option GValueValue} {y : GEntry} (hl14 : l14.length ≤ 1000) : ∀ (l : List GTree) (i : Int) (acc : List GValueValue), (∀ x ∈ l, self x = some (f x)) → acc.length + l.length ≤ 64 →
 zM.l35 self l14 x16 rec20 y l i acc = rec20 (l14 ++ [⟨y.fTag, acc ++ l.map f⟩]) (IntKind.i64.wrap (x16 + 1))
 | [], i, acc, _, _ => by
  rw [zM.l35, qv, qA, xB (by omega), qg]
 | x :: l, i, acc, h, hl => by
  rw [qk] at hl
  rw [zM.l35, h x (qp ..), qg, xB (by omega), qg, made_l35 hl14 l _ _ (fun z hz => h z (qr _ hz)) (by rw [qi, qG]; omega), qq]; rfl
def entV (f : GTree → GValueValue) (e : GEntry) : GValueEntry := ⟨e.fTag, e.fTrees.map f⟩
theorem made_l20 {self : GTree → Option GValueValue} {f : GTree → GValueValue} {t : GTree} {r12 : List GRaw} (hn : t.fEntries.length ≤ 1000) (hs : ∀ e ∈ t.fEntries, e.fTrees.length ≤ 64 ∧ ∀ x ∈ e.fTrees, self x = some (f x)) : ∀ (k : Nat) (A B : List GEntry), t.fEntries = A ++ B → B.length < k →
 zM.l20 self t r12 k (A.map (entV f)) (A.length : Int) = some (.node (t.fEntries.map (entV f)) r12)
 | 0, A, B, _, h => by omega
 | k + 1, A, [], h, _ => by
  rw [qA] at h
  rw [zM.l20, if_neg (by rw [h]; omega), h]
 | k + 1, A, e :: B, h, hk => by
  rw [qk] at hk
  have hl : t.fEntries.length = A.length + (B.length + 1) := by rw [h, qi, qk]
  have he := hs e (by rw [h]; exact ut _ (qp ..))
  have ei : wW t.fEntries (A.length : Int) = some e := by rw [h]; exact ZL rfl
  rw [zM.l20, if_pos (by omega), ei, qg, made_l35 (f := f) (by rw [q2]; omega) e.fTrees 0 [] he.2 (by rw [ql]; omega), yF (by omega) (by omega)]
  have := made_l20 (self := self) (f := f) (r12 := r12) hn hs k (A ++ [e]) B (by rw [h, qq]; rfl) (by omega)
  rw [qE, qi, qG] at this
  rw [show (A.length : Int) + 1 = ((A.length + 1 : Nat) : Int) by omega]
  exact this
theorem ZU {f : GTree → Bool} : ∀ {l : List GEntry} {last : Int}, entB f last l = true → ∀ e ∈ l, last < e.fTag ∧ e.fTag ≤ 500 ∧ 1 ≤ e.fTrees.length ∧ e.fTrees.length ≤ 64 ∧ (∀ x ∈ e.fTrees, x.fKind = (e.fTrees.headD YW).fKind ∧ f x = true)
 | [], _, _, e, he => by cases he
 | a :: l, last, h, e, he => by
  rw [entB, qm, qm, decide_eq_true_eq] at h
  rcases qM.1 he with rfl | he
  · refine ⟨h.1.1.1, h.1.1.2.1, h.1.1.2.2.1, h.1.1.2.2.2, fun x hx => ?_⟩
    have := ua.1 h.1.2 x hx
    rw [qm, decide_eq_true_eq] at this
    exact this
  obtain ⟨h1, h2⟩ := ZU h.2 e he
  exact ⟨by omega, h2⟩
theorem YJ {f : GTree → Bool} : ∀ {l : List GEntry} {last : Int}, entB f last l = true → l.Pairwise YA
 | [], _, _ => List.Pairwise.nil
 | a :: l, last, h => by
  rw [entB, qm, qm] at h
  rw [un]
  exact ⟨fun e he => (ZU h.2 e he).1, YJ h.2⟩
theorem sorted_len {n : Nat} : ∀ {l : List GEntry} {lo : Int}, l.Pairwise YA → (∀ e ∈ l, lo < e.fTag ∧ e.fTag ≤ lo + n) → l.length ≤ n
 | [], _, _, _ => ul _
 | a :: l, lo, h, hl => by
  rw [un] at h
  have ha := hl a (qp ..)
  cases n with
  | zero => omega
  | succ n =>
   rw [qk]
   refine Nat.succ_le_succ (sorted_len (n := n) (lo := lo + 1) h.2 fun e he => ?_)
   have h1 := h.1 e he
   have h2 := hl e (qr _ he)
   unfold YA at h1; omega
theorem Xf {d : Nat} {t : GTree} (h : wv (d + 1) t = true) (h3 : t.fKind = 3) : t.fEntries.length ≤ 500 ∧ entB (wv d) 0 t.fEntries = true ∧ restB t = true ∧ t.fN = 0 ∧ t.fS = [] := by
 rw [wv, if_pos h3] at h
 simp only [qm, decide_eq_true_eq] at h
 refine ⟨?_, h.1.2, h.2, h.1.1.1, h.1.1.2⟩
 exact sorted_len (n := 500) (lo := 0) (YJ h.1.2) fun e he => by
  have := ZU h.1.2 e he; omega
theorem XI {t : GTree} (h : leafB t = true) : t.fKind = 1 ∨ t.fKind = 2 := by
 unfold leafB at h
 split at h
 · exact Or.inl ‹_›
 split at h
 · exact Or.inr ‹_›
 cases h
theorem XZ {d : Nat} {t : GTree} (h : wv d t = true) : t.fKind = 1 ∨ t.fKind = 2 ∨ t.fKind = 3 := by
 cases d with
 | zero => rcases XI h with h | h; exact Or.inl h; exact Or.inr (Or.inl h)
 | succ d =>
  rw [wv] at h
  split at h
  · exact Or.inr (Or.inr ‹_›)
  rcases XI h with h | h; exact Or.inl h; exact Or.inr (Or.inl h)
theorem made_eq : ∀ (d k : Nat) (t : GTree), d < k → wv d t = true → szT d t → zM k t = some (Xj d t)
 | d, 0, t, h, _, _ => by omega
 | 0, k + 1, t, _, hr, _ => by
  rw [zM, zM.body, Xj]
  rcases XI hr with h | h
  · rw [if_pos h, if_pos h]; rfl
  rw [if_neg (by omega), if_pos h, if_neg (by omega), if_pos h]; rfl
 | d + 1, k + 1, t, hk, hr, hz => by
  rw [zM, zM.body, Xj]
  by_cases h1 : t.fKind = 1
  · rw [if_pos h1, if_pos h1]; rfl
  by_cases h2 : t.fKind = 2
  · rw [if_neg h1, if_pos h2, if_neg h1, if_pos h2]; rfl
  have h3 : t.fKind = 3 := by rcases XZ hr with h | h | h <;> omega
  obtain ⟨hl, he, _, _, _⟩ := Xf hr h3
  have hs : ∀ e ∈ t.fEntries, e.fTrees.length ≤ 64 ∧ ∀ x ∈ e.fTrees, zM k x = some (Xj d x) := fun e hm => by
   have := ZU he e hm
   exact ⟨this.2.2.2.1, fun x hx => made_eq d k x (by omega) (this.2.2.2.2 x hx).2 (hz.2 x (YG hm hx))⟩
  rw [if_neg h1, if_neg h2, if_neg h1, if_neg h2, yK, xB (by have := hz.1.2.1; omega), qg, qg]
  cases hE : t.fEntries with
  | nil => rfl
  | cons a E =>
   rw [if_pos (by rw [qk]; omega)]
   have ha := hs a (by rw [hE]; exact qp ..)
   rw [idx_t (Int.le_refl 0) (show (a :: E)[qK 0]? = some a from rfl), qg, made_l62 (f := Xj d) a.fTrees 0 [] ha.2 (by rw [ql]; omega)]
   have := made_l20 (self := zM k) (f := Xj d) (r12 := t.fRest) (by omega) hs rounds [a] E (by rw [hE]; rfl) (by have := yM; rw [hE, qk] at hl; omega)
   rw [hE] at this
   exact this
theorem of_eq {t : GTree} (hz : szT 10 t) : Zs t = some (if Yv t = true then (Xj 10 t, true) else (.nil, false)) := by
 rw [Zs, check_eq hz, qg]
 by_cases h : Yv t = true
 · rw [h]
   have hr : wv 10 t = true := by unfold Yv at h; rw [qm] at h; exact h.2
   rw [if_neg (by decide), made_eq 10 rounds t (by have := yM; omega) hr hz]; rfl
 rw [if_pos (by simpa using h), if_neg h]
theorem tags_l8 : ∀ (l : List GValueEntry) (i : Int) (acc : List Int), acc.length + l.length ≤ 1000 → zZ.l8 l i acc = some (acc ++ l.map GValueEntry.ftag)
 | [], i, acc, _ => by rw [zZ.l8, qv, qA]
 | e :: l, i, acc, h => by
  rw [qk] at h
  rw [zZ.l8, xB (by omega), qg, tags_l8 l _ _ (by rw [qi, qG]; omega), qq]; rfl
theorem get_l4 {f : GTree → GValueValue} {e : GEntry} {B : List GEntry} (he : e.fTrees.length ≤ 64) : ∀ (A : List GEntry) (i : Int), (∀ a ∈ A, a.fTag ≠ e.fTag) → yr.l4 e.fTag ((A ++ e :: B).map (entV f)) i = some (e.fTrees.map f)
 | [], i, _ => by
  rw [qB, qD, yr.l4, if_pos (show (entV f e).ftag = e.fTag from rfl), show (entV f e).fl = e.fTrees.map f from rfl, wg, xB (by rw [q2]; omega)]; rfl
 | a :: A, i, h => by
  rw [qH, qD, yr.l4, if_neg (show ¬ (entV f a).ftag = e.fTag from h a (qp ..))]
  exact get_l4 he A _ fun b hb => h b (qr _ hb)
theorem rawL_len {enc : GTree → Option (List UInt8)} {tag : Int} : ∀ {l : List GTree} {m : List GRaw}, rawL enc tag l = some m → m.length = l.length
 | [], m, h => by cases h; rfl
 | x :: l, m, h => by
  obtain ⟨r, _, h⟩ := bind_some h
  obtain ⟨m', h1, h⟩ := bind_some h
  cases h
  rw [qk, qk, rawL_len h1]
def vbb (o : Option (List GRaw)) (k : List GRaw → Option (List GRaw × Int)) : Option (List GRaw × Int) :=
 match o with
 | some m => k m
 | none => some ([], 4)
theorem raws_l24 {selfR : Int → GValueValue → Option (GRaw × Int)} {f : GTree → GValueValue} {enc : GTree → Option (List UInt8)} {x6 : Int} {rec10 : Int → List GRaw → Option (List GRaw × Int)} {tag : Int} : ∀ (l : List GTree) (i : Int) (acc : List GRaw), (∀ x ∈ l, selfR tag (f x) = some (match rawT enc tag x with | some r => (r, 0) | none => (⟨0, 0, 0, []⟩, 4))) → acc.length + l.length < 3518437208882 →
 zS.l24 selfR x6 rec10 tag (l.map f) i acc = vbb (rawL enc tag l) fun m => rec10 (x6 + 1) (acc ++ m)
 | [], i, acc, _, _ => by rw [qv, zS.l24, rawL, vbb, qA]
 | x :: l, i, acc, h, hl => by
  rw [qk] at hl
  rw [qD, zS.l24, h x (qp ..), qg, rawL]
  cases hx : rawT enc tag x with
  | none => rfl
  | some r =>
   dsimp only
   rw [if_pos rfl, xB (by omega), qg, raws_l24 l _ _ (fun z hz => h z (qr _ hz)) (by rw [qi, qG]; omega), qg]
   cases rawL enc tag l with
   | none => rfl
   | some m => simp only [vbb, qg, qq, qH, qB]
theorem raws_l10 {selfR : Int → GValueValue → Option (GRaw × Int)} {f : GTree → GValueValue} {enc : GTree → Option (List UInt8)} {E : List GEntry} {rest : List GRaw} (hs : E.Pairwise YA) (ht : ∀ e ∈ E, e.fTrees.length ≤ 64 ∧ ∀ x ∈ e.fTrees, selfR e.fTag (f x) = some (match rawT enc e.fTag x with | some r => (r, 0) | none => (⟨0, 0, 0, []⟩, 4))) (hn : E.length ≤ 500) :
 ∀ (B A : List GEntry) (i : Int) (acc : List GRaw), E = A ++ B → acc.length ≤ 900000 + 64 * A.length → zS.l10 selfR ⟨E.map (entV f), rest⟩ (B.map GEntry.fTag) i acc = vbb (rawE enc B) fun m => some (srt (acc ++ m), 0)
 | [], A, i, acc, h, ha => by
  have hl : E.length = A.length := by rw [h, qA]
  rw [qv, zS.l10, sorted_eq (by omega), rawE, vbb, qA]; rfl
 | e :: B, A, i, acc, h, ha => by
  have hl : E.length = A.length + (B.length + 1) := by rw [h, qi, qk]
  have he := ht e (by rw [h]; exact ut _ (qp ..))
  have hA : ∀ a ∈ A, a.fTag ≠ e.fTag := fun a hm => by
   rw [h] at hs
   have := (List.pairwise_append.1 hs).2.2 a hm e (qp ..)
   unfold YA at this; omega
  have hg : yr ⟨E.map (entV f), rest⟩ e.fTag = some (e.fTrees.map f) := by
   rw [yr, h]; exact get_l4 he.1 A 0 hA
  rw [qD, zS.l10, hg, qg, raws_l24 (enc := enc) e.fTrees 0 acc he.2 (by omega), rawE]
  cases hL : rawL enc e.fTag e.fTrees with
  | none => rfl
  | some m =>
   have hm := rawL_len hL
   rw [vbb, raws_l10 hs ht hn B (A ++ [e]) _ _ (by rw [h, qq]; rfl) (by rw [qi, qi, qG]; omega), qg]
   cases rawE enc B with
   | none => rfl
   | some m' => simp only [vbb, qg, qq]
end
section
set_option maxRecDepth 4000
open AM
theorem putB_some {l : List GRaw} {b : List UInt8} (h : putB l = some b) : b = ZC l ∧ b.length ≤ 4096 := by
 unfold putB at h
 split at h
 · cases h
 cases h; exact ⟨rfl, by omega⟩
theorem encT_le {d : Nat} {t : GTree} {b : List UInt8} (h : XW d t = some b) : b.length ≤ 4096 := by
 cases d with
 | zero => cases h
 | succ d =>
  rw [XW] at h
  obtain ⟨L, _, h⟩ := bind_some h
  exact (putB_some h).2
theorem rawT_ok {d : Nat} {tag : Int} {x : GTree} {r : GRaw} (h1 : 1 ≤ tag) (h2 : tag ≤ 500) (hx : In64 x.fN) (h : rawT (XW d) tag x = some r) : YR r ∧ r.fTag = tag := by
 unfold rawT at h
 split at h
 · cases h; exact ⟨⟨check_num h1 h2, hx⟩, rfl⟩
 split at h
 · split at h
   · cases h
   cases h; exact ⟨⟨vad h1 h2 (by omega), in0⟩, rfl⟩
 obtain ⟨b, hb, h⟩ := bind_some h
 cases h; exact ⟨⟨vad h1 h2 (encT_le hb), in0⟩, rfl⟩
theorem rawL_ok {d : Nat} {tag : Int} (h1 : 1 ≤ tag) (h2 : tag ≤ 500) : ∀ {l : List GTree} {m : List GRaw}, (∀ x ∈ l, In64 x.fN) → rawL (XW d) tag l = some m → ∀ r ∈ m, YR r ∧ r.fTag = tag
 | [], m, _, h, r, hr => by cases h; cases hr
 | x :: l, m, hx, h, r, hr => by
  obtain ⟨a, ha, h⟩ := bind_some h
  obtain ⟨m', hm, h⟩ := bind_some h
  cases h
  rcases qM.1 hr with rfl | hr
  · exact rawT_ok h1 h2 (hx x (qp ..)) ha
  exact rawL_ok h1 h2 (fun z hz => hx z (qr _ hz)) hm r hr
theorem rawE_ok {d : Nat} : ∀ {l : List GEntry} {m : List GRaw}, (∀ e ∈ l, 1 ≤ e.fTag ∧ e.fTag ≤ 500 ∧ ∀ x ∈ e.fTrees, In64 x.fN) → rawE (XW d) l = some m → ∀ r ∈ m, YR r ∧ ∃ e ∈ l, r.fTag = e.fTag
 | [], m, _, h, r, hr => by cases h; cases hr
 | e :: l, m, hx, h, r, hr => by
  obtain ⟨a, ha, h⟩ := bind_some h
  obtain ⟨m', hm, h⟩ := bind_some h
  cases h
  have he := hx e (qp ..)
  rcases ux.1 hr with hr | hr
  · have := rawL_ok he.1 he.2.1 he.2.2 ha r hr
    exact ⟨this.1, e, qp .., this.2⟩
  obtain ⟨h1, e', h2, h3⟩ := rawE_ok (fun z hz => hx z (qr _ hz)) hm r hr
  exact ⟨h1, e', qr _ h2, h3⟩
theorem szT_own {d : Nat} {t : GTree} (h : szT d t) : ownS t := by
 cases d with
 | zero => exact h
 | succ d => exact h.1
theorem restB_mem {t : GTree} (h : restB t = true) : (∀ r ∈ t.fRest, yD r = true ∧ ∀ e ∈ t.fEntries, e.fTag ≠ r.fTag) ∧ t.fRest.Pairwise TagLe := by
 unfold restB at h
 rw [qm] at h
 refine ⟨fun r hr => ?_, risB_iff.1 h.2⟩
 have := ua.1 h.1 r hr
 rw [qm, uD] at this
 refine ⟨this.1, fun e he hc => ?_⟩
 have h2 := List.any_eq_false.1 this.2 e he
 exact h2 (decide_eq_true hc)
theorem raws_ok {d : Nat} {t : GTree} {L : List GRaw} (hr : wv (d + 1) t = true) (h3 : t.fKind = 3) (hz : szT (d + 1) t) (hL : rawE (XW d) t.fEntries = some L) : ∀ r ∈ srt (t.fRest ++ L), YR r := by
 obtain ⟨_, he, hb, _, _⟩ := Xf hr h3
 intro r hm
 rw [srt_mem] at hm
 rcases ux.1 hm with hm | hm
 · exact ⟨((restB_mem hb).1 r hm).1, hz.1.2.2 r hm⟩
 exact (rawE_ok (fun e hm => by
  have := ZU he e hm
  exact ⟨by omega, this.2.1, fun x hx => (szT_own (hz.2 x (YG hm hx))).1⟩) hL r hm).1
def orBad (o : Option (List UInt8)) : List UInt8 × Int :=
 match o with
 | some b => (b, 0)
 | none => ([], 4)
theorem va9 {l : List GRaw} (h : ∀ r ∈ l, YR r) : z8 l = some (orBad (putB l)) := by
 rw [putAll_eq fun r hr => (h r hr).2, if_pos (ua.2 fun r hr => (h r hr).1), putB]
 split
 · rfl
 rfl
theorem tags_eq {f : GTree → GValueValue} {E : List GEntry} {rest : List GRaw} (h : E.length ≤ 500) : zZ ⟨E.map (entV f), rest⟩ = some (E.map GEntry.fTag) := by
 rw [zZ]
 have := tags_l8 (E.map (entV f)) 0 [] (by rw [ql, q2]; omega)
 rw [this, qB, List.map_map]; rfl
theorem raws_eq {selfB : GValueNode → Option (List UInt8 × Int)} {selfR : Int → GValueValue → Option (GRaw × Int)} {selfS : GValueNode → Option (List GRaw × Int)} {f : GTree → GValueValue} {enc : GTree → Option (List UInt8)} {E : List GEntry} {rest : List GRaw} (hs : E.Pairwise YA) (ht : ∀ e ∈ E, e.fTrees.length ≤ 64 ∧ ∀ x ∈ e.fTrees, selfR e.fTag (f x) = some (match rawT enc e.fTag x with | some r => (r, 0) | none => (⟨0, 0, 0, []⟩, 4))) (hn : E.length ≤ 500) (hr : rest.length ≤ 900000) :
 zS.body selfB selfR selfS ⟨E.map (entV f), rest⟩ = vbb (rawE enc E) fun m => some (srt (rest ++ m), 0) := by
 rw [zS.body, tags_eq hn, wr, yK, xB (by dsimp only; omega), qg, qg, qg, qg]
 exact raws_l10 hs ht hn E [] 0 rest rfl (by rw [ql]; omega)
theorem bytes_eq : ∀ (d k : Nat) (t : GTree) (es : List GValueEntry) (rs : List GRaw), 3 * d ≤ k → wv d t = true → t.fKind = 3 → szT d t → Xj d t = .node es rs → y0 k ⟨es, rs⟩ = some (orBad (XW d t))
 | 0, k, t, es, rs, _, hr, h3, _, _ => by
  rcases XI hr with h | h <;> omega
 | d + 1, k, t, es, rs, hk, hr, h3, hz, hv => by
  obtain ⟨k', rfl⟩ : ∃ k', k = k' + 3 := ⟨k - 3, by omega⟩
  obtain ⟨hl, he, hb, _, _⟩ := Xf hr h3
  rw [Xj, if_neg (by omega), if_neg (by omega)] at hv
  cases hv
  have hs : ∀ e ∈ t.fEntries, e.fTrees.length ≤ 64 ∧ ∀ x ∈ e.fTrees, yE (k' + 1) e.fTag (Xj d x) = some (match rawT (XW d) e.fTag x with | some r => (r, 0) | none => (⟨0, 0, 0, []⟩, 4)) := by
   intro e hm
   have h1 := ZU he e hm
   refine ⟨h1.2.2.2.1, fun x hx => ?_⟩
   have hrx := (h1.2.2.2.2 x hx).2
   have hzx := hz.2 x (YG hm hx)
   rw [yE, yE.body, rawT]
   rcases XZ hrx with h | h | h
   · have hv : Xj d x = .num x.fN := by cases d <;> rw [Xj, if_pos h]
     rw [hv, if_pos h]; rfl
   · have hv : Xj d x = .str x.fS := by cases d <;> rw [Xj, if_neg (by omega), if_pos h]
     rw [hv, if_neg (by omega), if_pos h, show xS (.str x.fS) = some (.str x.fS) from rfl, qg]
     dsimp only
     rw [yE.j3]
     by_cases hc : 4096 < x.fS.length
     · rw [if_pos hc, if_pos (by dsimp only; omega)]
     rw [if_neg hc, if_neg (by dsimp only; omega)]
   have h1' : ¬ x.fKind = 1 := by omega
   have h2' : ¬ x.fKind = 2 := by omega
   obtain ⟨es, rs, hv⟩ : ∃ es rs, Xj d x = .node es rs := by cases d <;> exact ⟨_, _, by rw [Xj, if_neg h1', if_neg h2']⟩
   rw [hv, if_neg h1', if_neg h2', show xS (.node es rs) = some (.node es rs) from rfl, qg]
   dsimp only
   rw [bytes_eq d k' x es rs (by omega) hrx h hzx hv, qg]
   cases hx' : XW d x with
   | none => rfl
   | some b =>
    have hbl := encT_le hx'
    rw [orBad]; dsimp only
    rw [if_pos rfl, yE.j3, if_neg (by dsimp only; omega), qg]
  have hR : zS (k' + 2) ⟨t.fEntries.map fun e => ⟨e.fTag, e.fTrees.map (Xj d)⟩, t.fRest⟩ = vbb (rawE (XW d) t.fEntries) fun m => some (srt (t.fRest ++ m), 0) := by
   rw [zS]
   exact raws_eq (f := Xj d) (YJ he) hs hl hz.1.2.1
  rw [y0, y0.body, hR, XW]
  cases hL : rawE (XW d) t.fEntries with
  | none => rfl
  | some L =>
   rw [vbb, qg]; dsimp only
   rw [if_pos rfl, va9 (raws_ok hr h3 hz hL), qg, qg]
theorem rawE_eq {d k : Nat} {t : GTree} (hk : 3 * d + 2 ≤ k) (hr : wv (d + 1) t = true) (h3 : t.fKind = 3) (hz : szT (d + 1) t) : zS k ⟨t.fEntries.map (entV (Xj d)), t.fRest⟩ = vbb (rawE (XW d) t.fEntries) fun m => some (srt (t.fRest ++ m), 0) := by
 obtain ⟨k', rfl⟩ : ∃ k', k = k' + 2 := ⟨k - 2, by omega⟩
 obtain ⟨hl, he, hb, _, _⟩ := Xf hr h3
 rw [zS]
 refine raws_eq (f := Xj d) (YJ he) ?_ hl hz.1.2.1
 intro e hm
 have h1 := ZU he e hm
 refine ⟨h1.2.2.2.1, fun x hx => ?_⟩
 have hrx := (h1.2.2.2.2 x hx).2
 have hzx := hz.2 x (YG hm hx)
 rw [yE, yE.body, rawT]
 rcases XZ hrx with h | h | h
 · have hv : Xj d x = .num x.fN := by cases d <;> rw [Xj, if_pos h]
   rw [hv, if_pos h]; rfl
 · have hv : Xj d x = .str x.fS := by cases d <;> rw [Xj, if_neg (by omega), if_pos h]
   rw [hv, if_neg (by omega), if_pos h, show xS (.str x.fS) = some (.str x.fS) from rfl, qg]
   dsimp only
   rw [yE.j3]
   by_cases hc : 4096 < x.fS.length
   · rw [if_pos hc, if_pos (by dsimp only; omega)]
   rw [if_neg hc, if_neg (by dsimp only; omega)]
 have h1' : ¬ x.fKind = 1 := by omega
 have h2' : ¬ x.fKind = 2 := by omega
 obtain ⟨es, rs, hv⟩ : ∃ es rs, Xj d x = .node es rs := by cases d <;> exact ⟨_, _, by rw [Xj, if_neg h1', if_neg h2']⟩
 rw [hv, if_neg h1', if_neg h2', show xS (.node es rs) = some (.node es rs) from rfl, qg]
 dsimp only
 rw [bytes_eq d k' x es rs (by omega) hrx h hzx hv, qg]
 cases hx' : XW d x with
 | none => rfl
 | some b =>
  have hbl := encT_le hx'
  rw [orBad]; dsimp only
  rw [if_pos rfl, yE.j3, if_neg (by dsimp only; omega), qg]
theorem vbs {t : GTree} (h : Yv t = true) : wv 10 t = true ∧ vbp 101 t ≤ 10 := by
 unfold Yv at h
 rw [qm, decide_eq_true_eq] at h
 exact ⟨h.2, h.1⟩
theorem Raws_eq {t : GTree} (hz : szT 10 t) : wq t = some (if Yv t = true ∧ t.fKind = 3 then (match rawE (XW 9) t.fEntries with | some L => (srt (t.fRest ++ L), (0 : Int)) | none => ([], 4)) else ([], 1)) := by
 rw [wq, of_eq hz, qg]
 by_cases hc : Yv t = true
 · rw [if_pos hc]
   by_cases h3 : t.fKind = 3
   · rw [if_neg (by rw [decide_eq_true h3]; exact uK), if_pos ⟨hc, h3⟩]
     have hv : Xj 10 t = .node (t.fEntries.map (entV (Xj 9))) t.fRest := by rw [Xj, if_neg (by omega), if_neg (by omega)]; rfl
     rw [hv, show yA (.node (t.fEntries.map (entV (Xj 9))) t.fRest) = some ⟨t.fEntries.map (entV (Xj 9)), t.fRest⟩ from rfl, qg, rawE_eq (d := 9) (by have := yM; omega) (vbs hc).1 h3 hz]
     cases rawE (XW 9) t.fEntries <;> rfl
   rw [if_pos (by rw [decide_eq_false h3]; rfl), if_neg (fun h => h3 h.2)]
 rw [if_neg hc, if_pos (by rfl), if_neg (fun h => hc h.1)]
theorem Encode_eq {t : GTree} (hz : szT 10 t) : xv t = some (if Yv t = true ∧ t.fKind = 3 then orBad (XW 10 t) else ([], 1)) := by
 rw [xv, Raws_eq hz, qg]
 by_cases hc : Yv t = true ∧ t.fKind = 3
 · rw [if_pos hc, if_pos hc, XW]
   cases hL : rawE (XW 9) t.fEntries with
   | none => rfl
   | some L =>
    dsimp only
    rw [if_pos rfl, va9 (raws_ok (vbs hc.1).1 hc.2 hz hL), qg, qg]
 rw [if_neg hc, if_neg hc]; rfl
end
section
set_option maxRecDepth 4000
open AM

end
section
set_option maxRecDepth 4000
open AM
def deepT : Nat → GTree → Prop
 | 0, t => kids t = []
 | d + 1, t => ∀ x ∈ kids t, deepT d x
theorem rawEqB {r : GRaw} : (!(decide (r.fTag = r.fTag) && (decide (r.fWire = r.fWire) && (decide (r.fN = r.fN) && decide (r.fB = r.fB))))) = false := by simp
theorem same_l28 {self : GTree → GTree → Option Bool} {x11 : Int} {rec13 : Int → Option Bool} {y : GEntry} : ∀ (B A : List GTree), y.fTrees = A ++ B → (∀ x ∈ B, self x x = some true) → zP.l28 self x11 rec13 y B (A.length : Int) = rec13 (x11 + 1)
 | [], A, _, _ => rfl
 | x :: B, A, h, hs => by
  have ei : wW y.fTrees (A.length : Int) = some x := by rw [h]; exact ZL rfl
  rw [zP.l28, ei, qg, hs x (qp ..), qg, if_neg (by decide), show (A.length : Int) + 1 = ((A ++ [x]).length : Int) by rw [qi, qG]; omega]
  exact same_l28 B (A ++ [x]) (by rw [h, qq]; rfl) fun z hz => hs z (qr _ hz)
theorem same_l13 {self : GTree → GTree → Option Bool} {t : GTree} : ∀ (B A : List GEntry), t.fEntries = A ++ B → (∀ e ∈ B, ∀ x ∈ e.fTrees, self x x = some true) → zP.l13 self t B (A.length : Int) = some true
 | [], A, _, _ => rfl
 | e :: B, A, h, hs => by
  have ei : wW t.fEntries (A.length : Int) = some e := by rw [h]; exact ZL rfl
  rw [zP.l13, ei, qg, if_neg (by simp)]
  have := same_l28 (self := self) (x11 := (A.length : Int)) (rec13 := zP.l13 self t B) (y := e) e.fTrees [] rfl (hs e (qp ..))
  rw [ql] at this
  refine this.trans ?_
  rw [show (A.length : Int) + 1 = ((A ++ [e]).length : Int) by rw [qi, qG]; omega]
  exact same_l13 B (A ++ [e]) (by rw [h, qq]; rfl) fun z hz => hs z (qr _ hz)
theorem same_l8 {self : GTree → GTree → Option Bool} {t : GTree} : ∀ (B A : List GRaw), t.fRest = A ++ B → zP.l8 self t t B (A.length : Int) = zP.l13 self t t.fEntries 0
 | [], A, _ => rfl
 | r :: B, A, h => by
  have ei : wW t.fRest (A.length : Int) = some r := by rw [h]; exact ZL rfl
  rw [zP.l8, ei, qg, rawEqB, if_neg (by decide), show (A.length : Int) + 1 = ((A ++ [r]).length : Int) by rw [qi, qG]; omega]
  exact same_l8 B (A ++ [r]) (by rw [h, qq]; rfl)
theorem same_refl : ∀ (d k : Nat) (t : GTree), d < k → deepT d t → zP k t t = some true
 | d, 0, t, h, _ => by omega
 | d, k + 1, t, hk, hd => by
  rw [zP, zP.body, if_neg (by simp)]
  have h8 := same_l8 (self := zP k) (t := t) t.fRest [] rfl
  rw [ql] at h8
  refine h8.trans ?_
  have h13 := same_l13 (self := zP k) (t := t) t.fEntries [] rfl fun e he x hx => by
   have hm := YG he hx
   cases d with
   | zero => rw [show kids t = [] from hd] at hm; cases hm
   | succ d => exact same_refl d k x (by omega) (hd x hm)
  rw [ql] at h13
  exact h13
theorem Same_refl {d : Nat} {t : GTree} (hd : d < 1000) (h : deepT d t) : zP rounds t t = some true := same_refl d rounds t (by have := yM; omega) h
theorem right_deep : ∀ (d : Nat) (t : GTree), wv d t = true → deepT d t
 | 0, t, h => by
  have : t.fEntries = [] := by
   unfold wv leafB at h
   split at h
   · simp only [qm, decide_eq_true_eq] at h
     exact qC.1 (by omega)
   split at h
   · simp only [qm, decide_eq_true_eq] at h
     exact qC.1 (by omega)
   cases h
  rw [deepT, kids, this]; rfl
 | d + 1, t, h => by
  rw [deepT]
  intro x hx
  obtain ⟨e, he, hxe⟩ := List.mem_flatMap.1 hx
  by_cases h3 : t.fKind = 3
  · obtain ⟨_, hE, _⟩ := Xf h h3
    exact right_deep d x ((ZU hE e he).2.2.2.2 x hxe).2
  rw [wv, if_neg h3] at h
  have : t.fEntries = [] := by
   unfold leafB at h
   split at h
   · simp only [qm, decide_eq_true_eq] at h
     exact qC.1 (by omega)
   split at h
   · simp only [qm, decide_eq_true_eq] at h
     exact qC.1 (by omega)
   cases h
  rw [this] at he; cases he
end
end Go.Proofs.YtaddlmlpeghonaaGreatDoor
