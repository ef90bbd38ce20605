/- Parts of the proof, cut down to what it needs. -/
import Derived.Test.YtaddlmlpeghonaaDoorWFB
import Derived.Test.YtaddlmlpeghonaaDoorWFBa
set_option linter.constructorNameAsVariable false
set_option linter.unusedSimpArgs false
set_option linter.unusedVariables false
namespace Go.Proofs.YtaddlmlpeghonaaDoor
open _root_.List renaming length → qc, flatMap → qg, length_append → qi, length_cons → qk, length_nil → qn, mem_cons_self → qo, mem_cons_of_mem → qp, append_assoc → qr, getD_eq_getElem?_getD → qs, append_nil → qx, map_nil → qy, length_eq_zero_iff → qz, nil_append → qA, cons_append → qC, mem_cons → qD, replicate → qF, length_singleton → qG, drop_zero → qJ, getElem?_append_left → qK, map_cons → qM, getElem?_eq_getElem → qO, flatMap_cons → qP, map_append → qR, getElem?_eq_some_iff → qU, length_map → qV, range_zero → qY, all_cons → qZ, flatMap_append → q1, all_eq_true → q3, getElem?_set_ne → q5, take_of_length_le → uc, getElem?_append_right → ue, all_nil → uf, range_succ → ug, take_length → ui, pairwise_cons → uj, take_append_drop → uk, flatMap_nil → un, getElem?_set_self → uo, mem_append_right → uq, getElem?_eq_none → ur, filter_cons → ut, mem_map → uv, range → uz, set_cons_zero → uA, mem_append → uC, mem_singleton → uD, length_take → uF, length_drop → uG, getElem?_cons_zero → uH, getElem?_cons_succ → uI, set_cons_succ → uO
open _root_.Option renaming bind_some → qf, map_some → ux, getD_some → uN
open _root_.Nat renaming reduceEqDiff → qa, reduceLT → qb, reduceAdd → qd, reduceLeDiff → qe, le_refl → qq, zero_add → qt, lt_succ_self → qu, reduceMul → qw, reduceSub → qL, mul_le_mul_right → qQ, lt_of_lt_of_le → ua, reduceMod → ul, zero_le → um, le_trans → uu, zero_mul → uy, sub_zero → uL, sub_self → uM, succ_mul → uP, add_zero → uQ, add_mul → uR
open _root_.Bool renaming and_eq_true → ql, or_eq_true → qH, not_false → qI, and_self → qS, false_eq_true → qT, or_true → qW, not_true → qX, and_true → q2, or_false → ub, and_false → ud, not_eq_true' → uw, true_and → uE, false_ne_true → uJ, false_or → uK
open _root_.Int renaming toNat → qB, toNat_natCast → qN
open _root_.BitVec renaming ofInt → qv, toNat → uh
open _root_.Array renaming length_toList → q9, getD_eq_getD_getElem? → uB, getElem?_eq_getElem → uS
open _root_.UInt8 renaming ofNat → q7
open Result renaming andThen_ok → qj
open Sem renaming run_bind → qm, run_pure → qE
open _root_.Go.Proofs.Tryd renaming prog → qh
section
set_option maxRecDepth 4000
set_option maxHeartbeats 1000000
open AM
theorem yX.ev (a0 : Int) (r : Bool) (h : yX a0 = r) (σ : Store) : ACalls qh 66 [.int .i32 a0] σ (fun r' σ' => r' = .bool r ∧ σ' = σ) :=
 (yX.ok a0 r h).c σ
def yQ.j3 (x2 : Bool) : Bool :=
 (if x2 = true then true else false)
def yQ (a0 : List UInt8) : Bool :=
 (if a0 = [115, 99, 104, 101, 109, 97] then (yQ.j3 (decide (a0 = [115, 99, 104, 101, 109, 97]))) else (if a0 = [109, 101, 115, 115, 97, 103, 101] then (yQ.j3 (decide (a0 = [109, 101, 115, 115, 97, 103, 101]))) else (if a0 = [101, 110, 117, 109] then (yQ.j3 (decide (a0 = [101, 110, 117, 109]))) else (if a0 = [99, 97, 108, 108] then (yQ.j3 (decide (a0 = [99, 97, 108, 108]))) else (if a0 = [114, 101, 116, 117, 114, 110, 115] then (yQ.j3 (decide (a0 = [114, 101, 116, 117, 114, 110, 115]))) else (if a0 = [114, 101, 115, 101, 114, 118, 101, 100] then (yQ.j3 (decide (a0 = [114, 101, 115, 101, 114, 118, 101, 100]))) else (if a0 = [111, 112, 116, 105, 111, 110, 97, 108] then (yQ.j3 (decide (a0 = [111, 112, 116, 105, 111, 110, 97, 108]))) else (if a0 = [114, 101, 112, 101, 97, 116, 101, 100] then (yQ.j3 (decide (a0 = [114, 101, 112, 101, 97, 116, 101, 100]))) else (if a0 = [105, 110, 116, 51, 50] then (yQ.j3 (decide (a0 = [105, 110, 116, 51, 50]))) else (if a0 = [105, 110, 116, 54, 52] then (yQ.j3 (decide (a0 = [105, 110, 116, 54, 52]))) else (if a0 = [98, 111, 111, 108] then (yQ.j3 (decide (a0 = [98, 111, 111, 108]))) else (if a0 = [116, 101, 120, 116] then (yQ.j3 (decide (a0 = [116, 101, 120, 116]))) else (yQ.j3 (decide (a0 = [98, 121, 116, 101, 115])))))))))))))))
theorem yQ.ok (a0 : List UInt8) (r : Bool) (h : yQ a0 = r) : ACalls qh 67 [.str a0] [] (fun r' _ => r' = .bool r) := by
 refine zn (rs := [.tmp 2]) tok Tryd.func67 rfl Tryd.ntmps67 rfl Tryd.call67 (by simp) ?_
 refine zt [(0, .str a0)] ⟨rfl, trivial⟩ ?_
 unfold yQ at h
 refine rg tok [0] fun K hK => ?_
 simp only [go_sem, qb, reduceCtorEq]
 apply hK
 refine zd fun Z1 hZ1 => ?_
 refine rg tok [3] fun K hK => ?_
 simp only [go_sem, qb, reduceCtorEq]
 apply hK
 refine zk ?_
 refine xK (fun L τ => ∃ (x2 : Bool), L = ([(4, .bool x2)] : List (Nat × AV)) ∧ τ = ([] : Store) ∧ yQ.j3 x2 = r) ?_ ?_
 · refine rg tok [3, 4] fun K hK => ?_
   simp only [go_sem, qb, qa]
   apply hK
   refine zI rfl (fun hc5 => ?_) (fun hc5 => ?_)
   · rw [if_pos hc5] at h
     have t6 := eq_true hc5
     refine zh ?_
     exact ⟨_, _, ⟨decide (a0 = [115, 99, 104, 101, 109, 97]), rfl, rfl, h⟩, .s⟩
   rw [if_neg hc5] at h
   have t7 := eq_false hc5
   refine rg tok [3, 4] fun K hK => ?_
   simp only [go_sem, qb, qa, t7]
   apply hK
   refine zI rfl (fun hc8 => ?_) (fun hc8 => ?_)
   · rw [if_pos hc8] at h
     have t9 := eq_true hc8
     refine zh ?_
     exact ⟨_, _, ⟨decide (a0 = [109, 101, 115, 115, 97, 103, 101]), rfl, rfl, h⟩, .s⟩
   rw [if_neg hc8] at h
   have t10 := eq_false hc8
   refine rg tok [3, 4] fun K hK => ?_
   simp only [go_sem, qb, qa, t10]
   apply hK
   refine zI rfl (fun hc11 => ?_) (fun hc11 => ?_)
   · rw [if_pos hc11] at h
     have t12 := eq_true hc11
     refine zh ?_
     exact ⟨_, _, ⟨decide (a0 = [101, 110, 117, 109]), rfl, rfl, h⟩, .s⟩
   rw [if_neg hc11] at h
   have t13 := eq_false hc11
   refine rg tok [3, 4] fun K hK => ?_
   simp only [go_sem, qb, qa, t13]
   apply hK
   refine zI rfl (fun hc14 => ?_) (fun hc14 => ?_)
   · rw [if_pos hc14] at h
     have t15 := eq_true hc14
     refine zh ?_
     exact ⟨_, _, ⟨decide (a0 = [99, 97, 108, 108]), rfl, rfl, h⟩, .s⟩
   rw [if_neg hc14] at h
   have t16 := eq_false hc14
   refine rg tok [3, 4] fun K hK => ?_
   simp only [go_sem, qb, qa, t16]
   apply hK
   refine zI rfl (fun hc17 => ?_) (fun hc17 => ?_)
   · rw [if_pos hc17] at h
     have t18 := eq_true hc17
     refine zh ?_
     exact ⟨_, _, ⟨decide (a0 = [114, 101, 116, 117, 114, 110, 115]), rfl, rfl, h⟩, .s⟩
   rw [if_neg hc17] at h
   have t19 := eq_false hc17
   refine rg tok [3, 4] fun K hK => ?_
   simp only [go_sem, qb, qa, t19]
   apply hK
   refine zI rfl (fun hc20 => ?_) (fun hc20 => ?_)
   · rw [if_pos hc20] at h
     have t21 := eq_true hc20
     refine zh ?_
     exact ⟨_, _, ⟨decide (a0 = [114, 101, 115, 101, 114, 118, 101, 100]), rfl, rfl, h⟩, .s⟩
   rw [if_neg hc20] at h
   have t22 := eq_false hc20
   refine rg tok [3, 4] fun K hK => ?_
   simp only [go_sem, qb, qa, t22]
   apply hK
   refine zI rfl (fun hc23 => ?_) (fun hc23 => ?_)
   · rw [if_pos hc23] at h
     have t24 := eq_true hc23
     refine zh ?_
     exact ⟨_, _, ⟨decide (a0 = [111, 112, 116, 105, 111, 110, 97, 108]), rfl, rfl, h⟩, .s⟩
   rw [if_neg hc23] at h
   have t25 := eq_false hc23
   refine rg tok [3, 4] fun K hK => ?_
   simp only [go_sem, qb, qa, t25]
   apply hK
   refine zI rfl (fun hc26 => ?_) (fun hc26 => ?_)
   · rw [if_pos hc26] at h
     have t27 := eq_true hc26
     refine zh ?_
     exact ⟨_, _, ⟨decide (a0 = [114, 101, 112, 101, 97, 116, 101, 100]), rfl, rfl, h⟩, .s⟩
   rw [if_neg hc26] at h
   have t28 := eq_false hc26
   refine rg tok [3, 4] fun K hK => ?_
   simp only [go_sem, qb, qa, t28]
   apply hK
   refine zI rfl (fun hc29 => ?_) (fun hc29 => ?_)
   · rw [if_pos hc29] at h
     have t30 := eq_true hc29
     refine zh ?_
     exact ⟨_, _, ⟨decide (a0 = [105, 110, 116, 51, 50]), rfl, rfl, h⟩, .s⟩
   rw [if_neg hc29] at h
   have t31 := eq_false hc29
   refine rg tok [3, 4] fun K hK => ?_
   simp only [go_sem, qb, qa, t31]
   apply hK
   refine zI rfl (fun hc32 => ?_) (fun hc32 => ?_)
   · rw [if_pos hc32] at h
     have t33 := eq_true hc32
     refine zh ?_
     exact ⟨_, _, ⟨decide (a0 = [105, 110, 116, 54, 52]), rfl, rfl, h⟩, .s⟩
   rw [if_neg hc32] at h
   have t34 := eq_false hc32
   refine rg tok [3, 4] fun K hK => ?_
   simp only [go_sem, qb, qa, t34]
   apply hK
   refine zI rfl (fun hc35 => ?_) (fun hc35 => ?_)
   · rw [if_pos hc35] at h
     have t36 := eq_true hc35
     refine zh ?_
     exact ⟨_, _, ⟨decide (a0 = [98, 111, 111, 108]), rfl, rfl, h⟩, .s⟩
   rw [if_neg hc35] at h
   have t37 := eq_false hc35
   refine rg tok [3, 4] fun K hK => ?_
   simp only [go_sem, qb, qa, t37]
   apply hK
   refine zI rfl (fun hc38 => ?_) (fun hc38 => ?_)
   · rw [if_pos hc38] at h
     have t39 := eq_true hc38
     refine zh ?_
     exact ⟨_, _, ⟨decide (a0 = [116, 101, 120, 116]), rfl, rfl, h⟩, .s⟩
   rw [if_neg hc38] at h
   have t40 := eq_false hc38
   refine rgE tok [4] fun K hK => ?_
   simp only [go_sem, qb, qa, t40]
   apply hK
   exact ⟨_, _, ⟨decide (a0 = [98, 121, 116, 101, 115]), rfl, rfl, h⟩, .s⟩
 rintro _ _ ⟨x2, rfl, rfl, h⟩
 unfold yQ.j3 at h
 refine zv (b := x2) rfl (fun hc4 => ?_) (fun hc4 => ?_)
 · rw [if_pos hc4] at h
   refine rg tok [2] fun K hK => ?_
   simp only [go_sem, qb, qa]
   apply hK
   refine zj ?_
   obtain rfl := h
   exact yr
 rw [xD hc4] at h
 refine zh ?_
 apply hZ1
 refine rg tok [2] fun K hK => ?_
 simp only [go_sem, qb, qa]
 apply hK
 refine zj ?_
 obtain rfl := h
 exact yr
theorem yQ.ev (a0 : List UInt8) (r : Bool) (h : yQ a0 = r) (σ : Store) : ACalls qh 67 [.str a0] σ (fun r' σ' => r' = .bool r ∧ σ' = σ) :=
 (yQ.ok a0 r h).c σ
def xz (a0 : Int) : Bool :=
 ((decide (48 ≤ a0)) && (decide (a0 ≤ 57)))
theorem xz.ok (a0 : Int) (r : Bool) (h : xz a0 = r) : ACalls qh 68 [.int .i32 a0] [] (fun r' _ => r' = .bool r) := by
 refine zn (rs := [.tmp 2]) tok Tryd.func68 rfl Tryd.ntmps68 rfl Tryd.call68 (by simp) ?_
 refine zt [(0, .int .i32 a0)] ⟨rfl, trivial⟩ ?_
 unfold xz at h
 refine rg tok [0] fun K hK => ?_
 simp only [go_sem, qb, reduceCtorEq]
 apply hK
 refine rc [2] fun K hK => ?_
 refine zb tok 3 ?_
 simp only [go_sem, qb, qa, reduceCtorEq]
 refine zo 3 (fun L τ => L = ([(8, .bool ((decide (48 ≤ a0)) && (decide (a0 ≤ 57))))] : List (Nat × AV)) ∧ τ = ([] : Store)) ?_ ?_
 · refine yN 5 rfl (fun hg5 => ?_) (fun hg5 => ?_)
   · have t1 := eq_true hg5
     refine zb tok 3 ?_
     simp only [go_sem, qb, qa, reduceCtorEq]
     refine za ⟨rfl, _, _, ⟨rfl, rfl⟩, .p t1⟩
   have t2 := eq_false hg5
   refine zb tok 3 ?_
   simp only [go_sem, qb, qa, reduceCtorEq]
   refine za ⟨rfl, _, _, ⟨rfl, rfl⟩, .p t2⟩
 rintro _ _ ⟨rfl, rfl⟩
 refine zb tok 1 ?_
 simp only [go_sem, qb]
 refine za ?_
 simp only [ze, upd, qa, reduceIte, zl, zq]
 apply hK
 refine zj ?_
 obtain rfl := h
 exact yr
theorem xz.ev (a0 : Int) (r : Bool) (h : xz a0 = r) (σ : Store) : ACalls qh 68 [.int .i32 a0] σ (fun r' σ' => r' = .bool r ∧ σ' = σ) :=
 (xz.ok a0 r h).c σ
def yM.l14 (r1 : List Int × Bool) : Nat → Int → Option Bool
 | 0, _ => none
 | k14 + 1, x12 => (if x12 < (qc r1.1 : Int) then (Zj r1.1 x12).bind fun y19 => bnd (yX y19) fun r22 => bnd (if (!r22) = true then bnd (xz y19) fun r25 => !r25 else false) fun c23 => (if c23 = true then some false else ((yM.l14 r1 k14) (IntKind.i64.wrap (x12 + 1)))) else some true)
def yM (a0 : List UInt8) : Option Bool :=
 (xw a0).bind fun r1 => (if (((!r1.2) || (decide ((qc r1.1 : Int) < 1))) || (decide (20 < (qc r1.1 : Int)))) = true then some true else (Zj r1.1 0).bind fun y3 => bnd (yX y3) fun r6 => some (!r6)).bind fun c3 => bnd (if c3 = true then true else bnd (yQ a0) fun r8 => r8) fun c8 => (if c8 = true then some false else (yM.l14 r1 rounds 1))
theorem yM.ok (a0 : List UInt8) (r : Bool) (h : yM a0 = some r) : ACalls qh 41 [.str a0] [] (fun r' _ => r' = .bool r) := by
 refine zn (rs := [.tmp 2]) tok Tryd.func41 rfl Tryd.ntmps41 rfl Tryd.call41 (by simp) ?_
 refine zt [(0, .str a0)] ⟨rfl, trivial⟩ ?_
 unfold yM at h
 refine rg tok [0] fun K hK => ?_
 simp only [go_sem, qb, reduceCtorEq]
 apply hK
 refine rc [0, 3, 4] fun K hK => ?_
 obtain ⟨r1, hr1, h⟩ := bind_some h
 refine zb tok 1 ?_
 simp only [go_sem, qb]
 refine zi rfl rfl rfl (xw.ev a0 r1 hr1 _) ?_
 rintro _ _ ⟨rfl, rfl⟩
 refine zb tok 5 ?_
 simp only [go_sem, qb, qa, qd, reduceCtorEq]
 refine za ?_
 simp only [ze, upd, qa, reduceIte, zl, zq]
 apply hK
 refine zd fun Z2 hZ2 => ?_
 refine rc [3, 33] fun K hK => ?_
 refine zb tok 3 ?_
 simp only [go_sem, qb, qa, reduceCtorEq]
 refine zo 4 (fun L τ => L = ([(0, .str a0), (3, .ds true (qg (vbj .i32) r1.1) (qc r1.1) false), (17, .bool ((!r1.2) || (decide ((qc r1.1 : Int) < 1))))] : List (Nat × AV)) ∧ τ = ([] : Store)) ?_ ?_
 · refine zQ (b := (!r1.2)) 13 rfl (fun hg13 => ?_) (fun hg13 => ?_)
   · refine zb tok 4 ?_
     simp only [go_sem, qb, qa, reduceCtorEq]
     refine za ⟨rfl, _, _, ⟨rfl, rfl⟩, .b hg13⟩
   refine zb tok 4 ?_
   simp only [go_sem, qb, qa, reduceCtorEq]
   refine za ⟨rfl, _, _, ⟨rfl, rfl⟩, .b hg13⟩
 rintro _ _ ⟨rfl, rfl⟩
 refine zb tok 1 ?_
 simp only [go_sem, qb, qa, reduceCtorEq]
 refine zo 4 (fun L τ => L = ([(0, .str a0), (3, .ds true (qg (vbj .i32) r1.1) (qc r1.1) false), (22, .bool (((!r1.2) || (decide ((qc r1.1 : Int) < 1))) || (decide (20 < (qc r1.1 : Int)))))] : List (Nat × AV)) ∧ τ = ([] : Store)) ?_ ?_
 · refine zQ (b := ((!r1.2) || (decide ((qc r1.1 : Int) < 1)))) 18 rfl (fun hg18 => ?_) (fun hg18 => ?_)
   · refine zb tok 4 ?_
     simp only [go_sem, qb, qa, reduceCtorEq]
     refine za ⟨rfl, _, _, ⟨rfl, rfl⟩, .b hg18⟩
   refine zb tok 4 ?_
   simp only [go_sem, qb, qa, reduceCtorEq]
   refine za ⟨rfl, _, _, ⟨rfl, rfl⟩, .b hg18⟩
 rintro _ _ ⟨rfl, rfl⟩
 refine zb tok 1 ?_
 simp only [go_sem, qb, qa, reduceCtorEq]
 obtain ⟨c3, hc3, h⟩ := bind_some h
 refine zo 6 (fun L τ => L = ([(0, .str a0), (3, .ds true (qg (vbj .i32) r1.1) (qc r1.1) false), (29, .bool c3)] : List (Nat × AV)) ∧ τ = ([] : Store)) ?_ ?_
 · refine zQ (b := (((!r1.2) || (decide ((qc r1.1 : Int) < 1))) || (decide (20 < (qc r1.1 : Int))))) 23 rfl (fun hg23 => ?_) (fun hg23 => ?_)
   · rw [if_pos hg23] at hc3
     refine zb tok 6 ?_
     simp only [go_sem, qb, qa, reduceCtorEq]
     obtain rfl := Option.some.inj hc3
     refine za ⟨rfl, _, _, ⟨rfl, rfl⟩, .b hg23⟩
   rw [xD hg23] at hc3
   obtain ⟨y4, hy4, hc3⟩ := bind_some hc3
   have f5 := E117.idxS hy4
   have f6 := E117.fldS0 (f := 21) rfl rfl hy4
   obtain ⟨r7, hr7, hc3⟩ := zS hc3
   refine zb tok 3 ?_
   simp only [go_sem, qb, qa, reduceCtorEq, vbj, f5, f6]
   refine zi rfl rfl rfl (yX.ev y4 r7 hr7 _) ?_
   rintro _ _ ⟨rfl, rfl⟩
   refine zb tok 2 ?_
   simp only [go_sem, qb, qa, reduceCtorEq]
   obtain rfl := Option.some.inj hc3
   refine za ⟨rfl, _, _, ⟨rfl, rfl⟩, .b hg23⟩
 rintro _ _ ⟨rfl, rfl⟩
 refine zb tok 1 ?_
 simp only [go_sem, qb, qa, reduceCtorEq]
 obtain ⟨c8, hc8, h⟩ := zS h
 refine zo 3 (fun L τ => L = ([(3, .ds true (qg (vbj .i32) r1.1) (qc r1.1) false), (33, .bool c8)] : List (Nat × AV)) ∧ τ = ([] : Store)) ?_ ?_
 · refine zQ (b := c3) 30 rfl (fun hg30 => ?_) (fun hg30 => ?_)
   · rw [if_pos hg30] at hc8
     refine zb tok 3 ?_
     simp only [go_sem, qb, qa, reduceCtorEq]
     subst hc8
     refine za ⟨rfl, _, _, ⟨rfl, rfl⟩, .b hg30⟩
   rw [xD hg30] at hc8
   obtain ⟨r9, hr9, hc8⟩ := zS hc8
   refine zb tok 1 ?_
   simp only [go_sem, qb, qa, reduceCtorEq]
   refine zi rfl rfl rfl (yQ.ev a0 r9 hr9 _) ?_
   rintro _ _ ⟨rfl, rfl⟩
   refine zb tok 1 ?_
   simp only [go_sem, qb, qa, reduceCtorEq]
   subst hc8
   refine za ⟨rfl, _, _, ⟨rfl, rfl⟩, .b hg30⟩
 rintro _ _ ⟨rfl, rfl⟩
 refine za ?_
 simp only [ze, qa, reduceIte, zl, zq]
 apply hK
 refine zv (b := c8) rfl (fun hc10 => ?_) (fun hc10 => ?_)
 · rw [if_pos hc10] at h
   refine rg tok [2] fun K hK => ?_
   simp only [go_sem, qb, qa]
   apply hK
   refine zj ?_
   obtain rfl := Option.some.inj h
   exact yr
 rw [xD hc10] at h
 refine zh ?_
 apply hZ2
 refine zd fun Z11 hZ11 => ?_
 refine rg tok [3, 5] fun K hK => ?_
 simp only [go_sem, qb, qa]
 apply hK
 refine zk ?_
 refine zF (fun m L τ => ∃ (k14 : Nat) (x12 : Int), m = 0 + k14 ∧ L = ([(3, .ds true (qg (vbj .i32) r1.1) (qc r1.1) false), (5, .int .i64 x12)] : List (Nat × AV)) ∧ τ = ([] : Store) ∧ yM.l14 r1 k14 x12 = some r) _ ⟨rounds, 1, rfl, rfl, rfl, h⟩ .s ?_
 rintro m L τ ⟨k14, x12, rfl, rfl, rfl, h⟩
 rcases k14 with _ | k14
 · cases h
 simp only [yM.l14] at h
 refine zd fun Z15 hZ15 => ?_
 refine rg tok [3, 5, 37] fun K hK => ?_
 simp only [go_sem, qb, qa]
 apply hK
 refine zI rfl (fun hc16 => ?_) (fun hc16 => ?_)
 · rw [if_pos hc16] at h
   have t17 := eq_true hc16
   refine zh ?_
   apply hZ15
   refine zd fun Z18 hZ18 => ?_
   refine zk ?_
   refine rc [3, 5, 53] fun K hK => ?_
   obtain ⟨y19, hy19, h⟩ := bind_some h
   have f20 := E117.idxS hy19
   have f21 := E117.fldS0 (f := 21) rfl rfl hy19
   obtain ⟨r22, hr22, h⟩ := zS h
   refine zb tok 4 ?_
   simp only [go_sem, qb, qa, vbj, t17, f20, f21]
   refine zi rfl rfl rfl (yX.ev y19 r22 hr22 _) ?_
   rintro _ _ ⟨rfl, rfl⟩
   refine zb tok 2 ?_
   simp only [go_sem, qb, qa]
   obtain ⟨c23, hc23, h⟩ := zS h
   refine zo 7 (fun L τ => L = ([(3, .ds true (qg (vbj .i32) r1.1) (qc r1.1) false), (5, .int .i64 x12), (53, .bool c23)] : List (Nat × AV)) ∧ τ = ([] : Store)) ?_ ?_
   · refine zQ (b := (!r22)) 46 rfl (fun hg46 => ?_) (fun hg46 => ?_)
     · rw [if_pos hg46] at hc23
       have f24 := E117.idxS hy19
       have f25 := E117.fldS0 (f := 21) rfl rfl hy19
       obtain ⟨r26, hr26, hc23⟩ := zS hc23
       refine zb tok 4 ?_
       simp only [go_sem, qb, qa, vbj, f24, f25]
       refine zi rfl rfl rfl (xz.ev y19 r26 hr26 _) ?_
       rintro _ _ ⟨rfl, rfl⟩
       refine zb tok 2 ?_
       simp only [go_sem, qb, qa]
       subst hc23
       refine za ⟨rfl, _, _, ⟨rfl, rfl⟩, .b hg46⟩
     rw [xD hg46] at hc23
     refine zb tok 7 ?_
     simp only [go_sem, qb, qa]
     subst hc23
     refine za ⟨rfl, _, _, ⟨rfl, rfl⟩, .b hg46⟩
   rintro _ _ ⟨rfl, rfl⟩
   refine za ?_
   simp only [ze, qa, reduceIte, zl, zq]
   apply hK
   refine zv (b := c23) rfl (fun hc27 => ?_) (fun hc27 => ?_)
   · rw [if_pos hc27] at h
     refine rg tok [2] fun K hK => ?_
     simp only [go_sem, qb, qa]
     apply hK
     refine zj ?_
     obtain rfl := Option.some.inj h
     exact yr
   rw [xD hc27] at h
   refine zh ?_
   apply hZ18
   refine rgE tok [3, 5] fun K hK => ?_
   simp only [go_sem, qb, qa]
   apply hK
   exact ⟨_, _, _, qu (0 + k14), ⟨k14, IntKind.i64.wrap (x12 + 1), rfl, rfl, rfl, h⟩, .s⟩
 rw [if_neg hc16] at h
 have t28 := eq_false hc16
 refine zM ?_
 apply hZ11
 refine rg tok [2] fun K hK => ?_
 simp only [go_sem, qb, qa, t28]
 apply hK
 refine zj ?_
 obtain rfl := Option.some.inj h
 exact yr
theorem yM.ev (a0 : List UInt8) (r : Bool) (h : yM a0 = some r) (σ : Store) : ACalls qh 41 [.str a0] σ (fun r' σ' => r' = .bool r ∧ σ' = σ) :=
 (yM.ok a0 r h).c σ
def yd.l4 (a0 : List UInt8) : List (List UInt8) → Int → Option Bool
 | [], x2 => (yM a0).bind fun r6 => some r6
 | y4 :: q4, x2 => (if y4 = a0 then some false else ((yd.l4 a0 q4) (x2 + 1)))
def yd (a0 : List UInt8) (a1 : List (List UInt8)) : Option Bool :=
 (yd.l4 a0 a1 0)
theorem yd.ok (a0 : List UInt8) (a1 : List (List UInt8)) (r : Bool) (h : yd a0 a1 = some r) : ACalls qh 43 [.str a0, .ds true (qg encS a1) (qc a1) false] [] (fun r' _ => r' = .bool r) := by
 refine zn (rs := [.tmp 4]) tok Tryd.func43 rfl Tryd.ntmps43 rfl Tryd.call43 (by simp) ?_
 refine zt [(0, .str a0), (1, .ds true (qg encS a1) (qc a1) false)] ⟨rfl, rfl, trivial⟩ ?_
 unfold yd at h
 refine rg tok [0, 1] fun K hK => ?_
 simp only [go_sem, qb, qa, reduceCtorEq]
 apply hK
 refine zd fun Z1 hZ1 => ?_
 refine rg tok [0, 1, 5] fun K hK => ?_
 simp only [go_sem, qb, qa, reduceCtorEq]
 apply hK
 refine zk ?_
 refine yW 1 fun hb4 => ?_
 replace hb4 : qc a1 ≤ 9223372036854775807 := hb4.1
 refine zF (fun m L τ => ∃ (p4 q4 : List (List UInt8)) (x2 : Int), m = qc q4 ∧ L = ([(0, .str a0), (1, .ds true (qg encS a1) (qc a1) false), (5, .int .i64 x2)] : List (Nat × AV)) ∧ τ = ([] : Store) ∧ a1 = p4 ++ q4 ∧ x2 = (qc p4 : Int) ∧ yd.l4 a0 q4 x2 = some r) _ ⟨[], a1, 0, rfl, rfl, rfl, rfl, rfl, h⟩ .s ?_
 rintro m L τ ⟨p4, q4, x2, rfl, rfl, rfl, hE4, hi4, h⟩
 rcases q4 with _ | ⟨y4, q4⟩
 · have hz4 := yz hE4 hi4
   simp only [yd.l4] at h
   refine zd fun Z5 hZ5 => ?_
   refine rg tok [0, 1, 5, 9] fun K hK => ?_
   simp only [go_sem, qb, qa, reduceCtorEq, hz4]
   apply hK
   refine zz rfl ?_
   refine zM ?_
   apply hZ1
   refine rc [4] fun K hK => ?_
   obtain ⟨r6, hr6, h⟩ := bind_some h
   refine zb tok 1 ?_
   simp only [go_sem, qb, reduceCtorEq]
   refine zi rfl rfl rfl (yM.ev a0 r6 hr6 _) ?_
   rintro _ _ ⟨rfl, rfl⟩
   refine zb tok 1 ?_
   simp only [go_sem, qb, qa, reduceCtorEq]
   refine za ?_
   simp only [ze, upd, qa, reduceIte, zl, zq]
   apply hK
   refine zj ?_
   obtain rfl := Option.some.inj h
   exact yr
 obtain ⟨hz4, hw4, hx4, hE'4, hi'4⟩ := yg hE4 hi4 hb4
 simp only [yd.l4] at h
 refine zd fun Z7 hZ7 => ?_
 refine rg tok [0, 1, 5, 9] fun K hK => ?_
 simp only [go_sem, qb, qa, reduceCtorEq, hz4]
 apply hK
 refine zB rfl ?_
 refine zh ?_
 apply hZ7
 refine zd fun Z8 hZ8 => ?_
 refine zk ?_
 have f9 := E94.idxS hx4
 have f10 := E94.fldS0 (f := 9) rfl rfl hx4
 refine rg tok [0, 1, 5, 17] fun K hK => ?_
 simp only [go_sem, qb, qa, reduceCtorEq, encS, f9, f10]
 apply hK
 refine zI rfl (fun hc11 => ?_) (fun hc11 => ?_)
 · rw [if_pos hc11] at h
   have t12 := eq_true hc11
   refine rg tok [4] fun K hK => ?_
   simp only [go_sem, qb, qa, reduceCtorEq, t12]
   apply hK
   refine zj ?_
   obtain rfl := Option.some.inj h
   exact yr
 rw [if_neg hc11] at h
 have t13 := eq_false hc11
 refine zh ?_
 apply hZ8
 refine rgE tok [0, 1, 5] fun K hK => ?_
 simp only [go_sem, qb, qa, reduceCtorEq, hw4, t13]
 apply hK
 exact ⟨_, _, _, qu q4.length, ⟨p4 ++ [y4], q4, x2 + 1, rfl, rfl, rfl, hE'4, hi'4, h⟩, .s⟩
def ye.l4 (a1 : Int) : List Int → Int → Bool
 | [], x2 => false
 | y4 :: q4, x2 => (if y4 = a1 then true else ((ye.l4 a1 q4) (x2 + 1)))
def ye (a0 : GMessage) (a1 : Int) : Bool :=
 (ye.l4 a1 a0.fReserved 0)
theorem ye.ok (a0 : GMessage) (a1 : Int) (r : Bool) (h : ye a0 a1 = r) : ACalls qh 96 [.agg (encGMessage a0), .int .i64 a1] [] (fun r' _ => r' = .bool r) := by
 refine zn (rs := [.tmp 4]) tok Tryd.func96 rfl Tryd.ntmps96 rfl Tryd.call96 (by simp) ?_
 refine zt [(0, .agg (encGMessage a0)), (1, .int .i64 a1)] ⟨rfl, rfl, trivial⟩ ?_
 unfold ye at h
 refine rg tok [1, 2] fun K hK => ?_
 simp only [go_sem, qb, qa, qd, reduceCtorEq, encGMessage]
 apply hK
 refine zd fun Z1 hZ1 => ?_
 refine rg tok [1, 2, 5] fun K hK => ?_
 simp only [go_sem, qb, qa]
 apply hK
 refine zk ?_
 refine xJ 0 rfl fun hb4 => ?_
 replace hb4 : qc a0.fReserved ≤ 9223372036854775807 := hb4.2.2.1.1
 refine zF (fun m L τ => ∃ (p4 q4 : List Int) (x2 : Int), m = qc q4 ∧ L = ([(1, .int .i64 a1), (2, .op 0 0 0), (5, .int .i64 x2)] : List (Nat × AV)) ∧ τ = ([.cells 0 (encGMessage a0)] : Store) ∧ a0.fReserved = p4 ++ q4 ∧ x2 = (qc p4 : Int) ∧ ye.l4 a1 q4 x2 = r) _ ⟨[], a0.fReserved, 0, rfl, rfl, rfl, rfl, rfl, h⟩ .s ?_
 rintro m L τ ⟨p4, q4, x2, rfl, rfl, rfl, hE4, hi4, h⟩
 rcases q4 with _ | ⟨y4, q4⟩
 · have hz4 := yz hE4 hi4
   simp only [ye.l4] at h
   refine zd fun Z5 hZ5 => ?_
   refine rg tok [1, 2, 5, 10] fun K hK => ?_
   simp only [go_sem, qb, qa, qd, hz4]
   apply hK
   refine zz rfl ?_
   refine zM ?_
   apply hZ1
   refine rg tok [4] fun K hK => ?_
   simp only [go_sem, qb, qa]
   apply hK
   refine zj ?_
   obtain rfl := h
   exact yr
 obtain ⟨hz4, hw4, hx4, hE'4, hi'4⟩ := yg hE4 hi4 hb4
 simp only [ye.l4] at h
 refine zd fun Z6 hZ6 => ?_
 refine rg tok [1, 2, 5, 10] fun K hK => ?_
 simp only [go_sem, qb, qa, qd, hz4]
 apply hK
 refine zB rfl ?_
 refine zh ?_
 apply hZ6
 refine zd fun Z7 hZ7 => ?_
 refine zk ?_
 have f8 := E24.idxS hx4
 have f9 := E24.fldS0 (f := 3) rfl rfl hx4
 refine rg tok [1, 2, 5, 19] fun K hK => ?_
 simp only [go_sem, qb, qa, qd, encI, f8, f9]
 apply hK
 refine zI rfl (fun hc10 => ?_) (fun hc10 => ?_)
 · rw [if_pos hc10] at h
   have t11 := eq_true hc10
   refine rg tok [4] fun K hK => ?_
   simp only [go_sem, qb, qa, t11]
   apply hK
   refine zj ?_
   obtain rfl := h
   exact yr
 rw [if_neg hc10] at h
 have t12 := eq_false hc10
 refine zh ?_
 apply hZ7
 refine rgE tok [1, 2, 5] fun K hK => ?_
 simp only [go_sem, qb, qa, hw4, t12]
 apply hK
 exact ⟨_, _, _, qu q4.length, ⟨p4 ++ [y4], q4, x2 + 1, rfl, rfl, rfl, hE'4, hi'4, h⟩, .s⟩
theorem ye.ev (a0 : GMessage) (a1 : Int) (r : Bool) (h : ye a0 a1 = r) (σ : Store) : ACalls qh 96 [.agg (encGMessage a0), .int .i64 a1] σ (fun r' σ' => r' = .bool r ∧ σ' = σ) :=
 (ye.ok a0 a1 r h).c σ
def y5.l4 (a1 : Int) : List GField → Int → GField × Bool
 | [], x2 => ((⟨[], 0, 0, (⟨0, []⟩ : GType)⟩ : GField), false)
 | y4 :: q4, x2 => (if y4.fTag = a1 then (y4, true) else ((y5.l4 a1 q4) (x2 + 1)))
def y5 (a0 : GMessage) (a1 : Int) : GField × Bool :=
 (y5.l4 a1 a0.fFields 0)
theorem y5.ok (a0 : GMessage) (a1 : Int) (r : GField × Bool) (h : y5 a0 a1 = r) : ACalls qh 97 [.agg (encGMessage a0), .int .i64 a1] [] (fun r' _ => r' = .tup [.agg (encGField r.1), .bool r.2]) := by
 refine zn (rs := [.cell 4 52, .tmp 5]) tok Tryd.func97 rfl Tryd.ntmps97 rfl Tryd.call97 (by simp) ?_
 refine zt [(0, .agg (encGMessage a0)), (1, .int .i64 a1)] ⟨rfl, rfl, trivial⟩ ?_
 unfold y5 at h
 refine rg tok [1, 2, 4] fun K hK => ?_
 simp only [go_sem, qb, qa, qd, reduceCtorEq, encGMessage]
 apply hK
 refine zd fun Z1 hZ1 => ?_
 refine rg tok [1, 2, 4, 6] fun K hK => ?_
 simp only [go_sem, qb, qa]
 apply hK
 refine zk ?_
 refine xJ 0 rfl fun hb4 => ?_
 replace hb4 : qc a0.fFields ≤ 9223372036854775807 := hb4.2.1.1
 refine zF (fun m L τ => ∃ (p4 q4 : List GField) (x2 : Int), m = qc q4 ∧ L = ([(1, .int .i64 a1), (2, .op 0 0 0), (4, .op 1 0 0), (6, .int .i64 x2)] : List (Nat × AV)) ∧ τ = ([.cells 0 (encGMessage a0), .cells 0 [.str [], .int .i64 0, .int .i64 0, .int .i64 0, .str []]] : Store) ∧ a0.fFields = p4 ++ q4 ∧ x2 = (qc p4 : Int) ∧ y5.l4 a1 q4 x2 = r) _ ⟨[], a0.fFields, 0, rfl, rfl, rfl, rfl, rfl, h⟩ .s ?_
 rintro m L τ ⟨p4, q4, x2, rfl, rfl, rfl, hE4, hi4, h⟩
 rcases q4 with _ | ⟨y4, q4⟩
 · have hz4 := yz hE4 hi4
   simp only [y5.l4] at h
   refine zd fun Z5 hZ5 => ?_
   refine rg tok [1, 2, 4, 6, 11] fun K hK => ?_
   simp only [go_sem, qb, qa, qd, hz4]
   apply hK
   refine zz rfl ?_
   refine zM ?_
   apply hZ1
   refine rg tok [4, 5] fun K hK => ?_
   simp only [go_sem, qb, qe, qa, qd]
   apply hK
   refine zj ?_
   obtain rfl := h
   exact yr
 obtain ⟨hz4, hw4, hx4, hE'4, hi'4⟩ := yg hE4 hi4 hb4
 simp only [y5.l4] at h
 refine zd fun Z6 hZ6 => ?_
 refine rg tok [1, 2, 4, 6, 11] fun K hK => ?_
 simp only [go_sem, qb, qa, qd, hz4]
 apply hK
 refine zB rfl ?_
 refine zh ?_
 apply hZ6
 refine zd fun Z7 hZ7 => ?_
 refine zk ?_
 have f8 := E23.idxS hx4
 have f9 := E23.fldS (f := 3) rfl rfl hx4 (o := 1) (by decide)
 refine rg tok [1, 2, 4, 6, 21] fun K hK => ?_
 simp only [go_sem, qb, qa, qd, encGField, f8, f9]
 apply hK
 refine zI rfl (fun hc10 => ?_) (fun hc10 => ?_)
 · rw [if_pos hc10] at h
   have t11 := eq_true hc10
   have f12 := E23.idxS hx4
   have f13 := E23.loadS rfl rfl hx4
   refine rg tok [4, 5] fun K hK => ?_
   simp only [go_sem, qb, qe, qa, qd, encGField, t11, f12, f13]
   apply hK
   refine zj ?_
   obtain rfl := h
   exact yr
 rw [if_neg hc10] at h
 have t14 := eq_false hc10
 refine zh ?_
 apply hZ7
 refine rgE tok [1, 2, 4, 6] fun K hK => ?_
 simp only [go_sem, qb, qa, hw4, t14]
 apply hK
 exact ⟨_, _, _, qu q4.length, ⟨p4 ++ [y4], q4, x2 + 1, rfl, rfl, rfl, hE'4, hi'4, h⟩, .s⟩
theorem y5.ev (a0 : GMessage) (a1 : Int) (r : GField × Bool) (h : y5 a0 a1 = r) (σ : Store) : ACalls qh 97 [.agg (encGMessage a0), .int .i64 a1] σ (fun r' σ' => r' = .tup [.agg (encGField r.1), .bool r.2] ∧ σ' = σ) :=
 (y5.ok a0 a1 r h).c σ
def xm.l4 (a1 : List UInt8) : List GEnumeration → Int → GEnumeration × Bool
 | [], x2 => ((⟨[], ([] : List GNamed)⟩ : GEnumeration), false)
 | y4 :: q4, x2 => (if y4.fName = a1 then (y4, true) else ((xm.l4 a1 q4) (x2 + 1)))
def xm (a0 : GSchema) (a1 : List UInt8) : GEnumeration × Bool :=
 (xm.l4 a1 a0.fEnums 0)
theorem xm.ok (a0 : GSchema) (a1 : List UInt8) (r : GEnumeration × Bool) (h : xm a0 a1 = r) : ACalls qh 120 [.agg (encGSchema a0), .str a1] [] (fun r' _ => r' = .tup [.agg (encGEnumeration r.1), .bool r.2]) := by
 refine zn (rs := [.cell 4 90, .tmp 5]) tok Tryd.func120 rfl Tryd.ntmps120 rfl Tryd.call120 (by simp) ?_
 refine zt [(0, .agg (encGSchema a0)), (1, .str a1)] ⟨rfl, rfl, trivial⟩ ?_
 unfold xm at h
 refine rg tok [1, 2, 4] fun K hK => ?_
 simp only [go_sem, qb, qa, qd, reduceCtorEq, encGSchema]
 apply hK
 refine zd fun Z1 hZ1 => ?_
 refine rg tok [1, 2, 4, 6] fun K hK => ?_
 simp only [go_sem, qb, qa]
 apply hK
 refine zk ?_
 refine xJ 0 rfl fun hb4 => ?_
 replace hb4 : qc a0.fEnums ≤ 9223372036854775807 := hb4.2.2.1.1
 refine zF (fun m L τ => ∃ (p4 q4 : List GEnumeration) (x2 : Int), m = qc q4 ∧ L = ([(1, .str a1), (2, .op 0 0 0), (4, .op 1 0 0), (6, .int .i64 x2)] : List (Nat × AV)) ∧ τ = ([.cells 0 (encGSchema a0), .cells 0 [.str [], .ds true [] 0 true]] : Store) ∧ a0.fEnums = p4 ++ q4 ∧ x2 = (qc p4 : Int) ∧ xm.l4 a1 q4 x2 = r) _ ⟨[], a0.fEnums, 0, rfl, rfl, rfl, rfl, rfl, h⟩ .s ?_
 rintro m L τ ⟨p4, q4, x2, rfl, rfl, rfl, hE4, hi4, h⟩
 rcases q4 with _ | ⟨y4, q4⟩
 · have hz4 := yz hE4 hi4
   simp only [xm.l4] at h
   refine zd fun Z5 hZ5 => ?_
   refine rg tok [1, 2, 4, 6, 11] fun K hK => ?_
   simp only [go_sem, qb, qa, qd, hz4]
   apply hK
   refine zz rfl ?_
   refine zM ?_
   apply hZ1
   refine rg tok [4, 5] fun K hK => ?_
   simp only [go_sem, qb, qe, qa, qd]
   apply hK
   refine zj ?_
   obtain rfl := h
   exact yr
 obtain ⟨hz4, hw4, hx4, hE'4, hi'4⟩ := yg hE4 hi4 hb4
 simp only [xm.l4] at h
 refine zd fun Z6 hZ6 => ?_
 refine rg tok [1, 2, 4, 6, 11] fun K hK => ?_
 simp only [go_sem, qb, qa, qd, hz4]
 apply hK
 refine zB rfl ?_
 refine zh ?_
 apply hZ6
 refine zd fun Z7 hZ7 => ?_
 refine zk ?_
 have f8 := E28.idxS hx4
 have f9 := E28.fldS0 (f := 9) rfl rfl hx4
 refine rg tok [1, 2, 4, 6, 21] fun K hK => ?_
 simp only [go_sem, qb, qa, qd, encGEnumeration, f8, f9]
 apply hK
 refine zI rfl (fun hc10 => ?_) (fun hc10 => ?_)
 · rw [if_pos hc10] at h
   have t11 := eq_true hc10
   have f12 := E28.idxS hx4
   have f13 := E28.loadS rfl rfl hx4
   refine rg tok [4, 5] fun K hK => ?_
   simp only [go_sem, qb, qe, qa, qd, encGEnumeration, t11, f12, f13]
   apply hK
   refine zj ?_
   obtain rfl := h
   exact yr
 rw [if_neg hc10] at h
 have t14 := eq_false hc10
 refine zh ?_
 apply hZ7
 refine rgE tok [1, 2, 4, 6] fun K hK => ?_
 simp only [go_sem, qb, qa, hw4, t14]
 apply hK
 exact ⟨_, _, _, qu q4.length, ⟨p4 ++ [y4], q4, x2 + 1, rfl, rfl, rfl, hE'4, hi'4, h⟩, .s⟩
theorem xm.ev (a0 : GSchema) (a1 : List UInt8) (r : GEnumeration × Bool) (h : xm a0 a1 = r) (σ : Store) : ACalls qh 120 [.agg (encGSchema a0), .str a1] σ (fun r' σ' => r' = .tup [.agg (encGEnumeration r.1), .bool r.2] ∧ σ' = σ) :=
 (xm.ok a0 a1 r h).c σ
def yh.l4 (a1 : List UInt8) : List GMessage → Int → GMessage × Bool
 | [], x2 => ((⟨[], ([] : List GField), ([] : List Int)⟩ : GMessage), false)
 | y4 :: q4, x2 => (if y4.fName = a1 then (y4, true) else ((yh.l4 a1 q4) (x2 + 1)))
def yh (a0 : GSchema) (a1 : List UInt8) : GMessage × Bool :=
 (yh.l4 a1 a0.fMessages 0)
theorem yh.ok (a0 : GSchema) (a1 : List UInt8) (r : GMessage × Bool) (h : yh a0 a1 = r) : ACalls qh 44 [.agg (encGSchema a0), .str a1] [] (fun r' _ => r' = .tup [.agg (encGMessage r.1), .bool r.2]) := by
 refine zn (rs := [.cell 4 26, .tmp 5]) tok Tryd.func44 rfl Tryd.ntmps44 rfl Tryd.call44 (by simp) ?_
 refine zt [(0, .agg (encGSchema a0)), (1, .str a1)] ⟨rfl, rfl, trivial⟩ ?_
 unfold yh at h
 refine rg tok [1, 2, 4] fun K hK => ?_
 simp only [go_sem, qb, qa, qd, reduceCtorEq, encGSchema]
 apply hK
 refine zd fun Z1 hZ1 => ?_
 refine rg tok [1, 2, 4, 6] fun K hK => ?_
 simp only [go_sem, qb, qa]
 apply hK
 refine zk ?_
 refine xJ 0 rfl fun hb4 => ?_
 replace hb4 : qc a0.fMessages ≤ 9223372036854775807 := hb4.2.1.1
 refine zF (fun m L τ => ∃ (p4 q4 : List GMessage) (x2 : Int), m = qc q4 ∧ L = ([(1, .str a1), (2, .op 0 0 0), (4, .op 1 0 0), (6, .int .i64 x2)] : List (Nat × AV)) ∧ τ = ([.cells 0 (encGSchema a0), .cells 0 [.str [], .ds true [] 0 true, .ds true [] 0 true]] : Store) ∧ a0.fMessages = p4 ++ q4 ∧ x2 = (qc p4 : Int) ∧ yh.l4 a1 q4 x2 = r) _ ⟨[], a0.fMessages, 0, rfl, rfl, rfl, rfl, rfl, h⟩ .s ?_
 rintro m L τ ⟨p4, q4, x2, rfl, rfl, rfl, hE4, hi4, h⟩
 rcases q4 with _ | ⟨y4, q4⟩
 · have hz4 := yz hE4 hi4
   simp only [yh.l4] at h
   refine zd fun Z5 hZ5 => ?_
   refine rg tok [1, 2, 4, 6, 11] fun K hK => ?_
   simp only [go_sem, qb, qa, qd, hz4]
   apply hK
   refine zz rfl ?_
   refine zM ?_
   apply hZ1
   refine rg tok [4, 5] fun K hK => ?_
   simp only [go_sem, qb, qe, qa, qd]
   apply hK
   refine zj ?_
   obtain rfl := h
   exact yr
 obtain ⟨hz4, hw4, hx4, hE'4, hi'4⟩ := yg hE4 hi4 hb4
 simp only [yh.l4] at h
 refine zd fun Z6 hZ6 => ?_
 refine rg tok [1, 2, 4, 6, 11] fun K hK => ?_
 simp only [go_sem, qb, qa, qd, hz4]
 apply hK
 refine zB rfl ?_
 refine zh ?_
 apply hZ6
 refine zd fun Z7 hZ7 => ?_
 refine zk ?_
 have f8 := E27.idxS hx4
 have f9 := E27.fldS0 (f := 9) rfl rfl hx4
 refine rg tok [1, 2, 4, 6, 21] fun K hK => ?_
 simp only [go_sem, qb, qa, qd, encGMessage, f8, f9]
 apply hK
 refine zI rfl (fun hc10 => ?_) (fun hc10 => ?_)
 · rw [if_pos hc10] at h
   have t11 := eq_true hc10
   have f12 := E27.idxS hx4
   have f13 := E27.loadS rfl rfl hx4
   refine rg tok [4, 5] fun K hK => ?_
   simp only [go_sem, qb, qe, qa, qd, encGMessage, t11, f12, f13]
   apply hK
   refine zj ?_
   obtain rfl := h
   exact yr
 rw [if_neg hc10] at h
 have t14 := eq_false hc10
 refine zh ?_
 apply hZ7
 refine rgE tok [1, 2, 4, 6] fun K hK => ?_
 simp only [go_sem, qb, qa, hw4, t14]
 apply hK
 exact ⟨_, _, _, qu q4.length, ⟨p4 ++ [y4], q4, x2 + 1, rfl, rfl, rfl, hE'4, hi'4, h⟩, .s⟩
theorem yh.ev (a0 : GSchema) (a1 : List UInt8) (r : GMessage × Bool) (h : yh a0 a1 = r) (σ : Store) : ACalls qh 44 [.agg (encGSchema a0), .str a1] σ (fun r' σ' => r' = .tup [.agg (encGMessage r.1), .bool r.2] ∧ σ' = σ) :=
 (yh.ok a0 a1 r h).c σ
def yE.j3 (a0 : GSchema) (a1 : GType) (x2 : Bool) : Bool :=
 (if x2 = true then decide (a1.fName = []) else (if a1.fKind = 6 then bnd (xm a0 a1.fName) fun r7 => r7.2 else (if a1.fKind = 7 then bnd (yh a0 a1.fName) fun r11 => r11.2 else false)))
def yE (a0 : GSchema) (a1 : GType) : Bool :=
 (if a1.fKind = 1 then (yE.j3 a0 a1 (decide (a1.fKind = 1))) else (if a1.fKind = 2 then (yE.j3 a0 a1 (decide (a1.fKind = 2))) else (if a1.fKind = 3 then (yE.j3 a0 a1 (decide (a1.fKind = 3))) else (if a1.fKind = 4 then (yE.j3 a0 a1 (decide (a1.fKind = 4))) else (yE.j3 a0 a1 (decide (a1.fKind = 5)))))))
theorem yE.ok (a0 : GSchema) (a1 : GType) (r : Bool) (h : yE a0 a1 = r) : ACalls qh 98 [.agg (encGSchema a0), .agg (encGType a1)] [] (fun r' _ => r' = .bool r) := by
 refine zn (rs := [.tmp 4]) tok Tryd.func98 rfl Tryd.ntmps98 rfl Tryd.call98 (by simp) ?_
 refine zt [(0, .agg (encGSchema a0)), (1, .agg (encGType a1))] ⟨rfl, rfl, trivial⟩ ?_
 unfold yE at h
 refine rg tok [2, 3] fun K hK => ?_
 simp only [go_sem, qb, qa, qd, reduceCtorEq, encGSchema, encGType]
 apply hK
 refine zd fun Z1 hZ1 => ?_
 refine rg tok [2, 3, 10] fun K hK => ?_
 simp only [go_sem, qb, qa, qd]
 apply hK
 refine zk ?_
 refine xK (fun L τ => ∃ (x2 : Bool), L = ([(2, .op 0 0 0), (3, .op 1 0 0), (10, .int .i64 a1.fKind), (11, .bool x2)] : List (Nat × AV)) ∧ τ = ([.cells 0 (encGSchema a0), .cells 0 [.int .i64 a1.fKind, .str a1.fName]] : Store) ∧ yE.j3 a0 a1 x2 = r) ?_ ?_
 · refine rg tok [2, 3, 10, 11] fun K hK => ?_
   simp only [go_sem, qb, qa]
   apply hK
   refine zI rfl (fun hc13 => ?_) (fun hc13 => ?_)
   · rw [if_pos hc13] at h
     have t14 := eq_true hc13
     refine zh ?_
     exact ⟨_, _, ⟨decide (a1.fKind = 1), rfl, rfl, h⟩, .s⟩
   rw [if_neg hc13] at h
   have t15 := eq_false hc13
   refine rg tok [2, 3, 10, 11] fun K hK => ?_
   simp only [go_sem, qb, qa, t15]
   apply hK
   refine zI rfl (fun hc16 => ?_) (fun hc16 => ?_)
   · rw [if_pos hc16] at h
     have t17 := eq_true hc16
     refine zh ?_
     exact ⟨_, _, ⟨decide (a1.fKind = 2), rfl, rfl, h⟩, .s⟩
   rw [if_neg hc16] at h
   have t18 := eq_false hc16
   refine rg tok [2, 3, 10, 11] fun K hK => ?_
   simp only [go_sem, qb, qa, t18]
   apply hK
   refine zI rfl (fun hc19 => ?_) (fun hc19 => ?_)
   · rw [if_pos hc19] at h
     have t20 := eq_true hc19
     refine zh ?_
     exact ⟨_, _, ⟨decide (a1.fKind = 3), rfl, rfl, h⟩, .s⟩
   rw [if_neg hc19] at h
   have t21 := eq_false hc19
   refine rg tok [2, 3, 10, 11] fun K hK => ?_
   simp only [go_sem, qb, qa, t21]
   apply hK
   refine zI rfl (fun hc22 => ?_) (fun hc22 => ?_)
   · rw [if_pos hc22] at h
     have t23 := eq_true hc22
     refine zh ?_
     exact ⟨_, _, ⟨decide (a1.fKind = 4), rfl, rfl, h⟩, .s⟩
   rw [if_neg hc22] at h
   have t24 := eq_false hc22
   refine rgE tok [2, 3, 10, 11] fun K hK => ?_
   simp only [go_sem, qb, qa, t24]
   apply hK
   exact ⟨_, _, ⟨decide (a1.fKind = 5), rfl, rfl, h⟩, .s⟩
 rintro _ _ ⟨x2, rfl, rfl, h⟩
 unfold yE.j3 at h
 refine zv (b := x2) rfl (fun hc4 => ?_) (fun hc4 => ?_)
 · rw [if_pos hc4] at h
   refine rg tok [4] fun K hK => ?_
   simp only [go_sem, qb, qa, qd]
   apply hK
   refine zj ?_
   obtain rfl := h
   exact yr
 rw [xD hc4] at h
 refine rg tok [2, 3, 10, 20] fun K hK => ?_
 simp only [go_sem, qb, qa]
 apply hK
 refine zI rfl (fun hc5 => ?_) (fun hc5 => ?_)
 · rw [if_pos hc5] at h
   have t6 := eq_true hc5
   refine rc [6] fun K hK => ?_
   obtain ⟨r7, hr7, h⟩ := zS h
   refine zb tok 3 ?_
   simp only [go_sem, qb, qe, qa, qd, t6]
   refine zi rfl rfl rfl (xm.ev a0 a1.fName r7 hr7 _) ?_
   rintro _ _ ⟨rfl, rfl⟩
   refine zb tok 6 ?_
   simp only [go_sem, qb, qe, qa, qd, encGEnumeration]
   refine za ?_
   simp only [ze, upd, qa, reduceIte, zl, zq]
   apply hK
   refine rg tok [4] fun K hK => ?_
   simp only [go_sem, qb, qa]
   apply hK
   refine zj ?_
   obtain rfl := h
   exact yr
 rw [if_neg hc5] at h
 have t8 := eq_false hc5
 refine rg tok [2, 3, 30] fun K hK => ?_
 simp only [go_sem, qb, qa, t8]
 apply hK
 refine zI rfl (fun hc9 => ?_) (fun hc9 => ?_)
 · rw [if_pos hc9] at h
   have t10 := eq_true hc9
   refine rc [8] fun K hK => ?_
   obtain ⟨r11, hr11, h⟩ := zS h
   refine zb tok 3 ?_
   simp only [go_sem, qb, qe, qa, qd, t10]
   refine zi rfl rfl rfl (yh.ev a0 a1.fName r11 hr11 _) ?_
   rintro _ _ ⟨rfl, rfl⟩
   refine zb tok 6 ?_
   simp only [go_sem, qb, qe, qa, qd, encGMessage]
   refine za ?_
   simp only [ze, upd, qa, reduceIte, zl, zq]
   apply hK
   refine rg tok [4] fun K hK => ?_
   simp only [go_sem, qb, qa]
   apply hK
   refine zj ?_
   obtain rfl := h
   exact yr
 rw [if_neg hc9] at h
 have t12 := eq_false hc9
 refine zh ?_
 apply hZ1
 refine rg tok [4] fun K hK => ?_
 simp only [go_sem, qb, qa, t12]
 apply hK
 refine zj ?_
 obtain rfl := h
 exact yr
theorem yE.ev (a0 : GSchema) (a1 : GType) (r : Bool) (h : yE a0 a1 = r) (σ : Store) : ACalls qh 98 [.agg (encGSchema a0), .agg (encGType a1)] σ (fun r' σ' => r' = .bool r ∧ σ' = σ) :=
 (yE.ok a0 a1 r h).c σ
def zC.l17 (a0 : GSchema) (a1 : GMessage) : List GField → Int → List (List UInt8) → Option Int
 | [], x13, l11 => some 0
 | y17 :: q17, x13, l11 => (yd y17.fName l11).bind fun r24 => (if (!r24) = true then some 6 else (YN (qc l11 + 1) 16).bind fun _u26 => (grd ((0 : Int) ≤ 0 ∧ 0 ≤ x13 ∧ x13 ≤ (qc a1.fFields : Int))).bind fun _u29 => bnd (y5 (⟨[], YF a1.fFields 0 x13, ([] : List Int)⟩ : GMessage) y17.fTag) fun r31 => bnd (if ((r31.2 || (decide (y17.fTag < 1))) || (decide (500 < y17.fTag))) = true then true else bnd (ye a1 y17.fTag) fun r32 => r32) fun c32 => (if c32 = true then some 7 else bnd (if ((decide (y17.fLabel < 1)) || (decide (3 < y17.fLabel))) = true then true else bnd (yE a0 y17.fType) fun r37 => !r37) fun c37 => (if c37 = true then some 8 else ((zC.l17 a0 a1 q17) (x13 + 1) (l11 ++ [y17.fName])))))
def zC.j43 (x6 : Int) (rec8 : Int → Option Int) (x42 : Bool) : Option Int :=
 (if x42 = true then some 7 else (rec8 (x6 + 1)))
def zC.l8 (a0 : GSchema) (a1 : GMessage) : List Int → Int → Option Int
 | [], x6 => (zC.l17 a0 a1 a1.fFields 0 ([] : List (List UInt8)))
 | y8 :: q8, x6 => (if y8 < 1 then (zC.j43 x6 (zC.l8 a0 a1 q8) true) else (if 500 < y8 then (zC.j43 x6 (zC.l8 a0 a1 q8) true) else (grd ((0 : Int) ≤ 0 ∧ 0 ≤ x6 ∧ x6 ≤ (qc a1.fReserved : Int))).bind fun _u53 => bnd (ye (⟨[], ([] : List GField), YF a1.fReserved 0 x6⟩ : GMessage) y8) fun r57 => (zC.j43 x6 (zC.l8 a0 a1 q8) r57)))
def zC (a0 : GSchema) (a1 : GMessage) : Option Int :=
 (if ((decide (16 < (qc a1.fFields : Int))) || (decide (32 < (qc a1.fReserved : Int)))) = true then some 4 else (zC.l8 a0 a1 a1.fReserved 0))
theorem zC.ok (a0 : GSchema) (a1 : GMessage) (r : Int) (h : zC a0 a1 = some r) : ACalls qh 69 [.agg (encGSchema a0), .agg (encGMessage a1)] [] (fun r' _ => r' = .int .i64 r) := by
 refine zn (rs := [.tmp 4]) tok Tryd.func69 rfl Tryd.ntmps69 rfl Tryd.call69 (by simp) ?_
 refine zt [(0, .agg (encGSchema a0)), (1, .agg (encGMessage a1))] ⟨rfl, rfl, trivial⟩ ?_
 unfold zC at h
 refine rg tok [2, 3] fun K hK => ?_
 simp only [go_sem, qb, qa, qd, reduceCtorEq, encGMessage, encGSchema]
 apply hK
 refine zd fun Z1 hZ1 => ?_
 refine rc [2, 3, 20] fun K hK => ?_
 refine zb tok 5 ?_
 simp only [go_sem, qb, qa, qd]
 refine zo 5 (fun L τ => L = ([(2, .op 0 0 0), (3, .op 1 0 0), (20, .bool ((decide (16 < (qc a1.fFields : Int))) || (decide (32 < (qc a1.fReserved : Int)))))] : List (Nat × AV)) ∧ τ = ([.cells 0 (encGSchema a0), .cells 0 (encGMessage a1)] : Store)) ?_ ?_
 · refine yN 15 rfl (fun hg15 => ?_) (fun hg15 => ?_)
   · have t2 := eq_true hg15
     refine zb tok 5 ?_
     simp only [go_sem, qb, qa]
     refine za ⟨rfl, _, _, ⟨rfl, rfl⟩, .p t2⟩
   have t3 := eq_false hg15
   refine zb tok 5 ?_
   simp only [go_sem, qb, qa, qd]
   refine za ⟨rfl, _, _, ⟨rfl, rfl⟩, .p t3⟩
 rintro _ _ ⟨rfl, rfl⟩
 refine za ?_
 simp only [ze, qa, reduceIte, zl, zq]
 apply hK
 refine zv (b := ((decide (16 < (qc a1.fFields : Int))) || (decide (32 < (qc a1.fReserved : Int))))) rfl (fun hc4 => ?_) (fun hc4 => ?_)
 · rw [if_pos hc4] at h
   refine rg tok [4] fun K hK => ?_
   simp only [go_sem, qb, qa]
   apply hK
   refine zj ?_
   obtain rfl := Option.some.inj h
   exact yr
 rw [xD hc4] at h
 refine zh ?_
 apply hZ1
 refine zd fun Z5 hZ5 => ?_
 refine rg tok [2, 3, 5] fun K hK => ?_
 simp only [go_sem, qb, qa]
 apply hK
 refine zk ?_
 refine xJ 1 rfl fun hb8 => ?_
 replace hb8 : qc a1.fReserved ≤ 9223372036854775807 := hb8.2.2.1.1
 refine zF (fun m L τ => ∃ (p8 q8 : List Int) (x6 : Int), m = qc q8 ∧ L = ([(2, .op 0 0 0), (3, .op 1 0 0), (5, .int .i64 x6)] : List (Nat × AV)) ∧ τ = ([.cells 0 (encGSchema a0), .cells 0 (encGMessage a1)] : Store) ∧ a1.fReserved = p8 ++ q8 ∧ x6 = (qc p8 : Int) ∧ zC.l8 a0 a1 q8 x6 = some r) _ ⟨[], a1.fReserved, 0, rfl, rfl, rfl, rfl, rfl, h⟩ .s ?_
 rintro m L τ ⟨p8, q8, x6, rfl, rfl, rfl, hE8, hi8, h⟩
 rcases q8 with _ | ⟨y8, q8⟩
 · have hz8 := yz hE8 hi8
   simp only [zC.l8] at h
   refine zd fun Z9 hZ9 => ?_
   refine rg tok [2, 3, 5, 25] fun K hK => ?_
   simp only [go_sem, qb, qa, qd, hz8]
   apply hK
   refine zz rfl ?_
   refine zM ?_
   apply hZ5
   refine rg tok [2, 3, 6] fun K hK => ?_
   simp only [go_sem, qb, qa]
   apply hK
   refine Zm 6 1 rfl ?_
   refine yc (L := [(2, .op 0 0 0), (3, .op 1 0 0), (6, .os true 1 2 0 0 (qc ([] : List (List UInt8))) false)]) (τ := [.cells 0 (encGSchema a0), .cells 0 (encGMessage a1), .cells 0 (qg encS ([] : List (List UInt8)))]) .s ?_
   refine zd fun Z10 hZ10 => ?_
   refine rg tok [2, 3, 6, 7] fun K hK => ?_
   simp only [go_sem, qb, qa]
   apply hK
   refine zk ?_
   refine xJ 1 rfl fun hb17 => ?_
   replace hb17 : qc a1.fFields ≤ 9223372036854775807 := hb17.2.1.1
   refine zF (fun m L τ => ∃ (p17 q17 : List GField) (x13 : Int) (l11 : List (List UInt8)) (v12 : Nat), m = qc q17 ∧ L = ([(2, .op 0 0 0), (3, .op 1 0 0), (6, .os true 1 2 v12 0 (qc l11) false), (7, .int .i64 x13)] : List (Nat × AV)) ∧ τ = ([.cells 0 (encGSchema a0), .cells 0 (encGMessage a1), .cells v12 (qg encS l11)] : Store) ∧ a1.fFields = p17 ++ q17 ∧ x13 = (qc p17 : Int) ∧ zC.l17 a0 a1 q17 x13 l11 = some r) _ ⟨[], a1.fFields, 0, ([] : List (List UInt8)), 0, rfl, rfl, rfl, rfl, rfl, h⟩ .s ?_
   rintro m L τ ⟨p17, q17, x13, l11, v12, rfl, rfl, rfl, hE17, hi17, h⟩
   rcases q17 with _ | ⟨y17, q17⟩
   · have hz17 := yz hE17 hi17
     simp only [zC.l17] at h
     refine zd fun Z18 hZ18 => ?_
     refine rg tok [2, 3, 6, 7, 59] fun K hK => ?_
     simp only [go_sem, qb, qa, qd, hz17]
     apply hK
     refine zz rfl ?_
     refine zM ?_
     apply hZ10
     refine rg tok [4] fun K hK => ?_
     simp only [go_sem, qb, qa]
     apply hK
     refine zj ?_
     obtain rfl := Option.some.inj h
     exact yr
   obtain ⟨hz17, hw17, hx17, hE'17, hi'17⟩ := yg hE17 hi17 hb17
   simp only [zC.l17] at h
   refine zd fun Z19 hZ19 => ?_
   refine rg tok [2, 3, 6, 7, 59] fun K hK => ?_
   simp only [go_sem, qb, qa, qd, hz17]
   apply hK
   refine zB rfl ?_
   refine zh ?_
   apply hZ19
   refine zd fun Z20 hZ20 => ?_
   refine zk ?_
   have f21 := E23.idxS hx17
   have f22 := E23.loadS rfl rfl hx17
   refine rg tok [2, 3, 6, 7, 8] fun K hK => ?_
   simp only [go_sem, qb, qe, qa, qd, encGField, f21, f22]
   apply hK
   refine zd fun Z23 hZ23 => ?_
   refine rc [2, 3, 6, 7, 8, 71] fun K hK => ?_
   obtain ⟨r24, hr24, h⟩ := bind_some h
   refine zb tok 3 ?_
   simp only [go_sem, qb, qa, qd]
   refine zi rfl rfl rfl (yd.ok y17.fName l11 r24 hr24).ld ?_
   rintro _ _ ⟨rfl, rfl⟩
   refine zb tok 1 ?_
   simp only [go_sem, qb, qa]
   refine za ?_
   simp only [ze, upd, qa, reduceIte, zl, zq]
   apply hK
   refine zv (b := (!r24)) rfl (fun hc25 => ?_) (fun hc25 => ?_)
   · rw [if_pos hc25] at h
     refine rg tok [4] fun K hK => ?_
     simp only [go_sem, qb, qa]
     apply hK
     refine zj ?_
     obtain rfl := Option.some.inj h
     exact yr
   rw [xD hc25] at h
   refine zh ?_
   apply hZ23
   obtain ⟨_u26, hu26, h⟩ := bind_some h
   have gu26 := yy hu26
   have f27 := (zK E94.len l11)
   refine rg tok [2, 3, 6, 7, 8] fun K hK => ?_
   simp only [go_sem, qb, qe, qa, qd, qw, zR, z8, ug, qY, true_and, ul, yn, zY, yq, gu26, f27, yS, uf, qZ, AV.one, qS, qA, qk, qn, qt, qC]
   apply hK
   refine yc (L := [(2, .op 0 0 0), (3, .op 1 0 0), (6, .os true 1 2 (v12 + 1) 0 (qc (l11 ++ [y17.fName])) false), (7, .int .i64 x13), (8, .op 3 0 0)]) (τ := [.cells 0 (encGSchema a0), .cells 0 (encGMessage a1), .cells (v12 + 1) (qg encS (l11 ++ [y17.fName])), .cells 0 (encGField y17), .cells 0 [.str y17.fName]]) .s ?_
   refine zd fun Z28 hZ28 => ?_
   obtain ⟨_u29, hu29, h⟩ := bind_some h
   have gu29 := wy hu29
   have f30 := E23.sl_hi gu29
   obtain ⟨r31, hr31, h⟩ := zS h
   refine rd [2, 3, 6, 7, 8, 10] fun K hK => ?_
   refine DW.start (T := tab) [.any, .at [], .any, .any, .any, .any, .at [], .eff, .any, .any, .any, .flt, .eff, .any] [] ?_
   refine DW.runN tok 7 ?_
   simp only [go_sem, qb, qe, qa, qd, f30]
   refine DW.call rfl rfl rfl (ACalls.loose (y5.ev (⟨[], YF a1.fFields 0 x13, ([] : List Int)⟩ : GMessage) y17.fTag r31 hr31 _)) ?_
   refine DW.runN tok 6 ?_
   simp only [go_sem, qb, qe, qa, qd, encGField]
   refine DW.fin tok (by decide +kernel) rfl ?_
   simp only [ze, upd, qa, reduceIte, zl, zq]
   apply hK
   refine rc [2, 3, 6, 7, 8, 104] fun K hK => ?_
   refine zb tok 2 ?_
   simp only [go_sem, qb, qa]
   refine zo 4 (fun L τ => L = ([(2, .op 0 0 0), (3, .op 1 0 0), (6, .os true 1 2 (v12 + 1) 0 (qc (l11 ++ [y17.fName])) false), (7, .int .i64 x13), (8, .op 3 0 0), (93, .bool (r31.2 || (decide (y17.fTag < 1))))] : List (Nat × AV)) ∧ τ = ([.cells 0 (encGSchema a0), .cells 0 (encGMessage a1), .cells (v12 + 1) (qg encS (l11 ++ [y17.fName])), .cells 0 (encGField y17), .cells 0 [.str y17.fName], .cells 0 (encGField r31.1)] : Store)) ?_ ?_
   · refine zQ (b := r31.2) 89 rfl (fun hg89 => ?_) (fun hg89 => ?_)
     · refine zb tok 4 ?_
       simp only [go_sem, qb, qa]
       refine za ⟨rfl, _, _, ⟨rfl, rfl⟩, .b hg89⟩
     refine zb tok 4 ?_
     simp only [go_sem, qb, qa, qd]
     refine za ⟨rfl, _, _, ⟨rfl, rfl⟩, .b hg89⟩
   rintro _ _ ⟨rfl, rfl⟩
   refine zb tok 1 ?_
   simp only [go_sem, qb, qa]
   refine zo 4 (fun L τ => L = ([(2, .op 0 0 0), (3, .op 1 0 0), (6, .os true 1 2 (v12 + 1) 0 (qc (l11 ++ [y17.fName])) false), (7, .int .i64 x13), (8, .op 3 0 0), (98, .bool ((r31.2 || (decide (y17.fTag < 1))) || (decide (500 < y17.fTag))))] : List (Nat × AV)) ∧ τ = ([.cells 0 (encGSchema a0), .cells 0 (encGMessage a1), .cells (v12 + 1) (qg encS (l11 ++ [y17.fName])), .cells 0 (encGField y17), .cells 0 [.str y17.fName], .cells 0 (encGField r31.1)] : Store)) ?_ ?_
   · refine zQ (b := (r31.2 || (decide (y17.fTag < 1)))) 94 rfl (fun hg94 => ?_) (fun hg94 => ?_)
     · refine zb tok 4 ?_
       simp only [go_sem, qb, qa]
       refine za ⟨rfl, _, _, ⟨rfl, rfl⟩, .b hg94⟩
     refine zb tok 4 ?_
     simp only [go_sem, qb, qa, qd]
     refine za ⟨rfl, _, _, ⟨rfl, rfl⟩, .b hg94⟩
   rintro _ _ ⟨rfl, rfl⟩
   refine zb tok 1 ?_
   simp only [go_sem, qb, qa]
   obtain ⟨c32, hc32, h⟩ := zS h
   refine zo 5 (fun L τ => L = ([(2, .op 0 0 0), (3, .op 1 0 0), (6, .os true 1 2 (v12 + 1) 0 (qc (l11 ++ [y17.fName])) false), (7, .int .i64 x13), (8, .op 3 0 0), (104, .bool c32)] : List (Nat × AV)) ∧ τ = ([.cells 0 (encGSchema a0), .cells 0 (encGMessage a1), .cells (v12 + 1) (qg encS (l11 ++ [y17.fName])), .cells 0 (encGField y17), .cells 0 [.str y17.fName], .cells 0 (encGField r31.1)] : Store)) ?_ ?_
   · refine zQ (b := ((r31.2 || (decide (y17.fTag < 1))) || (decide (500 < y17.fTag)))) 99 rfl (fun hg99 => ?_) (fun hg99 => ?_)
     · rw [if_pos hg99] at hc32
       refine zb tok 5 ?_
       simp only [go_sem, qb, qa]
       subst hc32
       refine za ⟨rfl, _, _, ⟨rfl, rfl⟩, .b hg99⟩
     rw [xD hg99] at hc32
     obtain ⟨r33, hr33, hc32⟩ := zS hc32
     refine zb tok 3 ?_
     simp only [go_sem, qb, qe, qa, qd]
     refine zi rfl rfl rfl (ye.ev a1 y17.fTag r33 hr33 _) ?_
     rintro _ _ ⟨rfl, rfl⟩
     refine zb tok 1 ?_
     simp only [go_sem, qb, qa]
     subst hc32
     refine za ⟨rfl, _, _, ⟨rfl, rfl⟩, .b hg99⟩
   rintro _ _ ⟨rfl, rfl⟩
   refine za ?_
   simp only [ze, qa, reduceIte, zl, zq]
   apply hK
   refine zv (b := c32) rfl (fun hc34 => ?_) (fun hc34 => ?_)
   · rw [if_pos hc34] at h
     refine rg tok [4] fun K hK => ?_
     simp only [go_sem, qb, qa]
     apply hK
     refine zj ?_
     obtain rfl := Option.some.inj h
     exact yr
   rw [xD hc34] at h
   refine zh ?_
   apply hZ28
   refine rc [2, 3, 6, 7, 119] fun K hK => ?_
   refine zb tok 4 ?_
   simp only [go_sem, qb, qa, qd]
   refine zo 4 (fun L τ => L = ([(2, .op 0 0 0), (3, .op 1 0 0), (6, .os true 1 2 (v12 + 1) 0 (qc (l11 ++ [y17.fName])) false), (7, .int .i64 x13), (8, .op 3 0 0), (112, .bool ((decide (y17.fLabel < 1)) || (decide (3 < y17.fLabel))))] : List (Nat × AV)) ∧ τ = ([.cells 0 (encGSchema a0), .cells 0 (encGMessage a1), .cells (v12 + 1) (qg encS (l11 ++ [y17.fName])), .cells 0 (encGField y17), .cells 0 [.str y17.fName], .cells 0 (encGField r31.1)] : Store)) ?_ ?_
   · refine yN 108 rfl (fun hg108 => ?_) (fun hg108 => ?_)
     · have t35 := eq_true hg108
       refine zb tok 4 ?_
       simp only [go_sem, qb, qa]
       refine za ⟨rfl, _, _, ⟨rfl, rfl⟩, .p t35⟩
     have t36 := eq_false hg108
     refine zb tok 4 ?_
     simp only [go_sem, qb, qa, qd]
     refine za ⟨rfl, _, _, ⟨rfl, rfl⟩, .p t36⟩
   rintro _ _ ⟨rfl, rfl⟩
   refine zb tok 1 ?_
   simp only [go_sem, qb, qa]
   obtain ⟨c37, hc37, h⟩ := zS h
   refine zo 6 (fun L τ => L = ([(2, .op 0 0 0), (3, .op 1 0 0), (6, .os true 1 2 (v12 + 1) 0 (qc (l11 ++ [y17.fName])) false), (7, .int .i64 x13), (119, .bool c37)] : List (Nat × AV)) ∧ τ = ([.cells 0 (encGSchema a0), .cells 0 (encGMessage a1), .cells (v12 + 1) (qg encS (l11 ++ [y17.fName])), .cells 0 (encGField y17), .cells 0 [.str y17.fName], .cells 0 (encGField r31.1)] : Store)) ?_ ?_
   · refine zQ (b := ((decide (y17.fLabel < 1)) || (decide (3 < y17.fLabel)))) 113 rfl (fun hg113 => ?_) (fun hg113 => ?_)
     · rw [if_pos hg113] at hc37
       refine zb tok 6 ?_
       simp only [go_sem, qb, qa]
       subst hc37
       refine za ⟨rfl, _, _, ⟨rfl, rfl⟩, .b hg113⟩
     rw [xD hg113] at hc37
     obtain ⟨r38, hr38, hc37⟩ := zS hc37
     refine zb tok 3 ?_
     simp only [go_sem, qb, qe, qa, qd]
     refine zi rfl rfl rfl (yE.ev a0 y17.fType r38 hr38 _) ?_
     rintro _ _ ⟨rfl, rfl⟩
     refine zb tok 2 ?_
     simp only [go_sem, qb, qa]
     subst hc37
     refine za ⟨rfl, _, _, ⟨rfl, rfl⟩, .b hg113⟩
   rintro _ _ ⟨rfl, rfl⟩
   refine za ?_
   simp only [ze, qa, reduceIte, zl, zq]
   apply hK
   refine zv (b := c37) rfl (fun hc39 => ?_) (fun hc39 => ?_)
   · rw [if_pos hc39] at h
     refine rg tok [4] fun K hK => ?_
     simp only [go_sem, qb, qa]
     apply hK
     refine zj ?_
     obtain rfl := Option.some.inj h
     exact yr
   rw [xD hc39] at h
   refine zh ?_
   apply hZ20
   refine rgE tok [2, 3, 6, 7] fun K hK => ?_
   simp only [go_sem, qb, qa, hw17]
   apply hK
   exact ⟨_, _, _, qu q17.length, ⟨p17 ++ [y17], q17, x13 + 1, l11 ++ [y17.fName], v12 + 1, rfl, rfl, rfl, hE'17, hi'17, h⟩, (.t [0, 1, 2] false)⟩
 obtain ⟨hz8, hw8, hx8, hE'8, hi'8⟩ := yg hE8 hi8 hb8
 simp only [zC.l8] at h
 refine zd fun Z40 hZ40 => ?_
 refine rg tok [2, 3, 5, 25] fun K hK => ?_
 simp only [go_sem, qb, qa, qd, hz8]
 apply hK
 refine zB rfl ?_
 refine zh ?_
 apply hZ40
 refine zd fun Z41 hZ41 => ?_
 refine zk ?_
 refine xK (fun L τ => ∃ (x42 : Bool), L = ([(2, .op 0 0 0), (3, .op 1 0 0), (5, .int .i64 x6), (54, .bool x42)] : List (Nat × AV)) ∧ τ = ([.cells 0 (encGSchema a0), .cells 0 (encGMessage a1)] : Store) ∧ zC.j43 x6 (zC.l8 a0 a1 q8) x42 = some r) ?_ ?_
 · refine rdE [2, 3, 5, 54] fun K hK => ?_
   refine DW.start (T := tab) [.any, .at [], .any, .any, .at [], .any, .any, .any, .at [], .any, .any, .at [], .any, .any, .any, .any, .at [], .any, .any, .any, .any, .at [], .any, .any, .at [], .eff, .any] [] ?_
   have f45 := E24.idxS hx8
   have f46 := E24.fldS0 (f := 3) rfl rfl hx8
   refine DW.runN tok 7 ?_
   simp only [go_sem, qb, qa, qd, encI, f45, f46]
   refine DW.if 34 rfl (fun hg34 => ?_) (fun hg34 => ?_)
   · rw [if_pos hg34] at h
     have t47 := eq_true hg34
     refine DW.runN tok 8 ?_
     simp only [go_sem, qb, qa, t47]
     refine DW.runN tok 8 ?_
     simp only [go_sem, qb, qa]
     refine DW.runN tok 4 ?_
     simp only [go_sem, qb, qa]
     refine DW.fin tok (by decide +kernel) rfl ?_
     simp only [ze, upd, qa, reduceIte, zl, zq]
     apply hK
     exact ⟨_, _, ⟨true, rfl, rfl, h⟩, .s⟩
   rw [if_neg hg34] at h
   have t48 := eq_false hg34
   have f49 := E24.idxS hx8
   have f50 := E24.fldS0 (f := 3) rfl rfl hx8
   refine DW.runN tok 8 ?_
   simp only [go_sem, qb, qa, qd, encI, t48, f49, f50]
   refine DW.if 42 rfl (fun hg42 => ?_) (fun hg42 => ?_)
   · rw [if_pos hg42] at h
     have t51 := eq_true hg42
     refine DW.runN tok 8 ?_
     simp only [go_sem, qb, qa, t51]
     refine DW.runN tok 4 ?_
     simp only [go_sem, qb, qa]
     refine DW.fin tok (by decide +kernel) rfl ?_
     simp only [ze, upd, qa, reduceIte, zl, zq]
     apply hK
     exact ⟨_, _, ⟨true, rfl, rfl, h⟩, .s⟩
   rw [if_neg hg42] at h
   have t52 := eq_false hg42
   obtain ⟨_u53, hu53, h⟩ := bind_some h
   have gu53 := wy hu53
   have f54 := E24.sl_hi gu53
   have f55 := E24.idxS hx8
   have f56 := E24.fldS0 (f := 3) rfl rfl hx8
   obtain ⟨r57, hr57, h⟩ := zS h
   refine DW.runN tok 8 ?_
   simp only [go_sem, qb, qe, qa, qd, t52, f54]
   refine DW.runN tok 2 ?_
   simp only [go_sem, qb, qa, encI, f55, f56]
   refine DW.call rfl rfl rfl (ACalls.loose (ye.ev (⟨[], ([] : List GField), YF a1.fReserved 0 x6⟩ : GMessage) y8 r57 hr57 _)) ?_
   refine DW.runN tok 1 ?_
   simp only [go_sem, qb, qa]
   refine DW.fin tok (by decide +kernel) rfl ?_
   simp only [ze, upd, qa, reduceIte, zl, zq]
   apply hK
   exact ⟨_, _, ⟨r57, rfl, rfl, h⟩, .s⟩
 rintro _ _ ⟨x42, rfl, rfl, h⟩
 unfold zC.j43 at h
 refine zv (b := x42) rfl (fun hc44 => ?_) (fun hc44 => ?_)
 · rw [if_pos hc44] at h
   refine rg tok [4] fun K hK => ?_
   simp only [go_sem, qb, qa]
   apply hK
   refine zj ?_
   obtain rfl := Option.some.inj h
   exact yr
 rw [xD hc44] at h
 refine zh ?_
 apply hZ41
 refine rgE tok [2, 3, 5] fun K hK => ?_
 simp only [go_sem, qb, qa, hw8]
 apply hK
 exact ⟨_, _, _, qu q8.length, ⟨p8 ++ [y8], q8, x6 + 1, rfl, rfl, rfl, hE'8, hi'8, h⟩, .s⟩
theorem zC.ev (a0 : GSchema) (a1 : GMessage) (r : Int) (h : zC a0 a1 = some r) (σ : Store) : ACalls qh 69 [.agg (encGSchema a0), .agg (encGMessage a1)] σ (fun r' σ' => r' = .int .i64 r ∧ σ' = σ) :=
 (zC.ok a0 a1 r h).c σ
def zU.l38 (a0 : GEnumeration) (x17 : Int) (l15 : List (List UInt8)) (rec21 : Int → List (List UInt8) → Option Int) (y21 : GNamed) : Nat → Int → Option Int
 | 0, _ => none
 | k38 + 1, x36 => (if x36 < x17 then (Zj a0.fValues x36).bind fun y43 => (if y43.fN = y21.fN then some 11 else ((zU.l38 a0 x17 l15 rec21 y21 k38) (IntKind.i64.wrap (x36 + 1)))) else (rec21 (x17 + 1) (l15 ++ [y21.fName])))
def zU.l21 (a0 : GEnumeration) : List GNamed → Int → List (List UInt8) → Option Int
 | [], x17, l15 => some 0
 | y21 :: q21, x17, l15 => (yd y21.fName l15).bind fun r28 => (if (!r28) = true then some 6 else (YN (qc l15 + 1) 16).bind fun _u30 => (if ((decide (y21.fN < 0)) || (decide (2147483647 < y21.fN))) = true then some 11 else (zU.l38 a0 x17 l15 (zU.l21 a0 q21) y21 rounds 0)))
def zU.l10 (a0 : GEnumeration) : List GNamed → Int → Bool → Option Int
 | [], x7, x6 => (if (!x6) = true then some 12 else (zU.l21 a0 a0.fValues 0 ([] : List (List UInt8))))
 | y10 :: q10, x7, x6 => ((zU.l10 a0 q10) (x7 + 1) (x6 || (decide (y10.fN = 0))))
def zU (a0 : GEnumeration) : Option Int :=
 (if 16 < (qc a0.fValues : Int) then some 4 else (zU.l10 a0 a0.fValues 0 false))
theorem zU.ok (a0 : GEnumeration) (r : Int) (h : zU a0 = some r) : ACalls qh 70 [.agg (encGEnumeration a0)] [] (fun r' _ => r' = .int .i64 r) := by
 refine zn (rs := [.tmp 2]) tok Tryd.func70 rfl Tryd.ntmps70 rfl Tryd.call70 (by simp) ?_
 refine zt [(0, .agg (encGEnumeration a0))] ⟨rfl, trivial⟩ ?_
 unfold zU at h
 refine rg tok [1] fun K hK => ?_
 simp only [go_sem, qb, qa, qd, reduceCtorEq, encGEnumeration]
 apply hK
 refine zd fun Z1 hZ1 => ?_
 refine rg tok [1, 12] fun K hK => ?_
 simp only [go_sem, qb, qa, qd]
 apply hK
 refine zI rfl (fun hc2 => ?_) (fun hc2 => ?_)
 · rw [if_pos hc2] at h
   have t3 := eq_true hc2
   refine rg tok [2] fun K hK => ?_
   simp only [go_sem, qb, qa, t3]
   apply hK
   refine zj ?_
   obtain rfl := Option.some.inj h
   exact yr
 rw [if_neg hc2] at h
 have t4 := eq_false hc2
 refine zh ?_
 apply hZ1
 refine rg tok [1, 3] fun K hK => ?_
 simp only [go_sem, qb, qa, t4]
 apply hK
 refine zd fun Z5 hZ5 => ?_
 refine rg tok [1, 3, 4] fun K hK => ?_
 simp only [go_sem, qb, qa]
 apply hK
 refine zk ?_
 refine xJ 0 rfl fun hb10 => ?_
 replace hb10 : qc a0.fValues ≤ 9223372036854775807 := hb10.2.1.1
 refine zF (fun m L τ => ∃ (p10 q10 : List GNamed) (x7 : Int) (x6 : Bool), m = qc q10 ∧ L = ([(1, .op 0 0 0), (3, .bool x6), (4, .int .i64 x7)] : List (Nat × AV)) ∧ τ = ([.cells 0 (encGEnumeration a0)] : Store) ∧ a0.fValues = p10 ++ q10 ∧ x7 = (qc p10 : Int) ∧ zU.l10 a0 q10 x7 x6 = some r) _ ⟨[], a0.fValues, 0, false, rfl, rfl, rfl, rfl, rfl, h⟩ .s ?_
 rintro m L τ ⟨p10, q10, x7, x6, rfl, rfl, rfl, hE10, hi10, h⟩
 rcases q10 with _ | ⟨y10, q10⟩
 · have hz10 := yz hE10 hi10
   simp only [zU.l10] at h
   refine zd fun Z11 hZ11 => ?_
   refine rg tok [1, 3, 4, 17] fun K hK => ?_
   simp only [go_sem, qb, qa, qd, hz10]
   apply hK
   refine zz rfl ?_
   refine zM ?_
   apply hZ5
   refine zd fun Z12 hZ12 => ?_
   refine rg tok [1, 31] fun K hK => ?_
   simp only [go_sem, qb, qa]
   apply hK
   refine zv (b := (!x6)) rfl (fun hc13 => ?_) (fun hc13 => ?_)
   · rw [if_pos hc13] at h
     refine rg tok [2] fun K hK => ?_
     simp only [go_sem, qb, qa]
     apply hK
     refine zj ?_
     obtain rfl := Option.some.inj h
     exact yr
   rw [xD hc13] at h
   refine zh ?_
   apply hZ12
   refine rg tok [1, 5] fun K hK => ?_
   simp only [go_sem, qb, qa]
   apply hK
   refine Zm 5 1 rfl ?_
   refine yc (L := [(1, .op 0 0 0), (5, .os true 1 1 0 0 (qc ([] : List (List UInt8))) false)]) (τ := [.cells 0 (encGEnumeration a0), .cells 0 (qg encS ([] : List (List UInt8)))]) .s ?_
   refine zd fun Z14 hZ14 => ?_
   refine rg tok [1, 5, 6] fun K hK => ?_
   simp only [go_sem, qb, qa]
   apply hK
   refine zk ?_
   refine xJ 0 rfl fun hb21 => ?_
   replace hb21 : qc a0.fValues ≤ 9223372036854775807 := hb21.2.1.1
   refine zF (fun m L τ => ∃ (p21 q21 : List GNamed) (x17 : Int) (l15 : List (List UInt8)) (v16 : Nat), m = qc q21 ∧ L = ([(1, .op 0 0 0), (5, .os true 1 1 v16 0 (qc l15) false), (6, .int .i64 x17)] : List (Nat × AV)) ∧ τ = ([.cells 0 (encGEnumeration a0), .cells v16 (qg encS l15)] : Store) ∧ a0.fValues = p21 ++ q21 ∧ x17 = (qc p21 : Int) ∧ zU.l21 a0 q21 x17 l15 = some r) _ ⟨[], a0.fValues, 0, ([] : List (List UInt8)), 0, rfl, rfl, rfl, rfl, rfl, h⟩ .s ?_
   rintro m L τ ⟨p21, q21, x17, l15, v16, rfl, rfl, rfl, hE21, hi21, h⟩
   rcases q21 with _ | ⟨y21, q21⟩
   · have hz21 := yz hE21 hi21
     simp only [zU.l21] at h
     refine zd fun Z22 hZ22 => ?_
     refine rg tok [1, 5, 6, 36] fun K hK => ?_
     simp only [go_sem, qb, qa, qd, hz21]
     apply hK
     refine zz rfl ?_
     refine zM ?_
     apply hZ14
     refine rg tok [2] fun K hK => ?_
     simp only [go_sem, qb, qa]
     apply hK
     refine zj ?_
     obtain rfl := Option.some.inj h
     exact yr
   obtain ⟨hz21, hw21, hx21, hE'21, hi'21⟩ := yg hE21 hi21 hb21
   simp only [zU.l21] at h
   refine zd fun Z23 hZ23 => ?_
   refine rg tok [1, 5, 6, 36] fun K hK => ?_
   simp only [go_sem, qb, qa, qd, hz21]
   apply hK
   refine zB rfl ?_
   refine zh ?_
   apply hZ23
   refine zd fun Z24 hZ24 => ?_
   refine zk ?_
   have f25 := E88.idxS hx21
   have f26 := E88.loadS rfl rfl hx21
   refine rg tok [1, 5, 6, 7] fun K hK => ?_
   simp only [go_sem, qb, qe, qa, qd, encGNamed, f25, f26]
   apply hK
   refine zd fun Z27 hZ27 => ?_
   refine rc [1, 5, 6, 7, 48] fun K hK => ?_
   obtain ⟨r28, hr28, h⟩ := bind_some h
   refine zb tok 3 ?_
   simp only [go_sem, qb, qa, qd]
   refine zi rfl rfl rfl (yd.ok y21.fName l15 r28 hr28).ld ?_
   rintro _ _ ⟨rfl, rfl⟩
   refine zb tok 1 ?_
   simp only [go_sem, qb, qa]
   refine za ?_
   simp only [ze, upd, qa, reduceIte, zl, zq]
   apply hK
   refine zv (b := (!r28)) rfl (fun hc29 => ?_) (fun hc29 => ?_)
   · rw [if_pos hc29] at h
     refine rg tok [2] fun K hK => ?_
     simp only [go_sem, qb, qa]
     apply hK
     refine zj ?_
     obtain rfl := Option.some.inj h
     exact yr
   rw [xD hc29] at h
   refine zh ?_
   apply hZ27
   obtain ⟨_u30, hu30, h⟩ := bind_some h
   have gu30 := yy hu30
   have f31 := (zK E94.len l15)
   refine rg tok [1, 5, 6, 7] fun K hK => ?_
   simp only [go_sem, qb, qe, qa, qd, qw, zR, z8, ug, qY, true_and, ul, yn, zY, yq, gu30, f31, yS, uf, qZ, AV.one, qS, qA, qk, qn, qt, qC]
   apply hK
   refine yc (L := [(1, .op 0 0 0), (5, .os true 1 1 (v16 + 1) 0 (qc (l15 ++ [y21.fName])) false), (6, .int .i64 x17), (7, .op 2 0 0)]) (τ := [.cells 0 (encGEnumeration a0), .cells (v16 + 1) (qg encS (l15 ++ [y21.fName])), .cells 0 [.str y21.fName, .int .i64 y21.fN], .cells 0 [.str y21.fName]]) .s ?_
   refine zd fun Z32 hZ32 => ?_
   refine rc [1, 5, 6, 7, 61] fun K hK => ?_
   refine zb tok 4 ?_
   simp only [go_sem, qb, qa, qd]
   refine zo 4 (fun L τ => L = ([(1, .op 0 0 0), (5, .os true 1 1 (v16 + 1) 0 (qc (l15 ++ [y21.fName])) false), (6, .int .i64 x17), (7, .op 2 0 0), (61, .bool ((decide (y21.fN < 0)) || (decide (2147483647 < y21.fN))))] : List (Nat × AV)) ∧ τ = ([.cells 0 (encGEnumeration a0), .cells (v16 + 1) (qg encS (l15 ++ [y21.fName])), .cells 0 [.str y21.fName, .int .i64 y21.fN], .cells 0 [.str y21.fName]] : Store)) ?_ ?_
   · refine yN 57 rfl (fun hg57 => ?_) (fun hg57 => ?_)
     · have t33 := eq_true hg57
       refine zb tok 4 ?_
       simp only [go_sem, qb, qa]
       refine za ⟨rfl, _, _, ⟨rfl, rfl⟩, .p t33⟩
     have t34 := eq_false hg57
     refine zb tok 4 ?_
     simp only [go_sem, qb, qa, qd]
     refine za ⟨rfl, _, _, ⟨rfl, rfl⟩, .p t34⟩
   rintro _ _ ⟨rfl, rfl⟩
   refine za ?_
   simp only [ze, qa, reduceIte, zl, zq]
   apply hK
   refine zv (b := ((decide (y21.fN < 0)) || (decide (2147483647 < y21.fN)))) rfl (fun hc35 => ?_) (fun hc35 => ?_)
   · rw [if_pos hc35] at h
     refine rg tok [2] fun K hK => ?_
     simp only [go_sem, qb, qa]
     apply hK
     refine zj ?_
     obtain rfl := Option.some.inj h
     exact yr
   rw [xD hc35] at h
   refine zh ?_
   apply hZ32
   refine rg tok [1, 5, 6, 7, 8] fun K hK => ?_
   simp only [go_sem, qb, qa]
   apply hK
   refine zk ?_
   refine zF (fun m L τ => ∃ (k38 : Nat) (x36 : Int), m = 0 + k38 ∧ L = ([(1, .op 0 0 0), (5, .os true 1 1 (v16 + 1) 0 (qc (l15 ++ [y21.fName])) false), (6, .int .i64 x17), (7, .op 2 0 0), (8, .int .i64 x36)] : List (Nat × AV)) ∧ τ = ([.cells 0 (encGEnumeration a0), .cells (v16 + 1) (qg encS (l15 ++ [y21.fName])), .cells 0 [.str y21.fName, .int .i64 y21.fN]] : Store) ∧ zU.l38 a0 x17 l15 (zU.l21 a0 q21) y21 k38 x36 = some r) _ ⟨rounds, 0, rfl, rfl, rfl, h⟩ (.t [0, 1, 2] false) ?_
   rintro m L τ ⟨k38, x36, rfl, rfl, rfl, h⟩
   rcases k38 with _ | k38
   · cases h
   simp only [zU.l38] at h
   refine zd fun Z39 hZ39 => ?_
   refine rg tok [1, 5, 6, 7, 8, 64] fun K hK => ?_
   simp only [go_sem, qb, qa]
   apply hK
   refine zI rfl (fun hc40 => ?_) (fun hc40 => ?_)
   · rw [if_pos hc40] at h
     have t41 := eq_true hc40
     refine zh ?_
     apply hZ39
     refine zd fun Z42 hZ42 => ?_
     refine zk ?_
     obtain ⟨y43, hy43, h⟩ := bind_some h
     have f44 := E88.idxS hy43
     have f45 := E88.fldS (f := 3) rfl rfl hy43 (o := 1) (by decide)
     refine rd [1, 5, 6, 7, 8, 75] fun K hK => ?_
     refine DW.start (T := tab) [.any, .at [], .any, .any, .any, .at [], .any, .at [], .any] [] ?_
     refine DW.runN tok 8 ?_
     simp only [go_sem, qb, qa, qd, encGNamed, t41, f44, f45]
     refine DW.runN tok 1 ?_
     simp only [go_sem, qb, qa]
     refine DW.fin tok (by decide +kernel) rfl ?_
     simp only [ze, upd, qa, reduceIte, zl, zq]
     apply hK
     refine zI rfl (fun hc46 => ?_) (fun hc46 => ?_)
     · rw [if_pos hc46] at h
       have t47 := eq_true hc46
       refine rg tok [2] fun K hK => ?_
       simp only [go_sem, qb, qa, t47]
       apply hK
       refine zj ?_
       obtain rfl := Option.some.inj h
       exact yr
     rw [if_neg hc46] at h
     have t48 := eq_false hc46
     refine zh ?_
     apply hZ42
     refine rgE tok [1, 5, 6, 7, 8] fun K hK => ?_
     simp only [go_sem, qb, qa, t48]
     apply hK
     exact ⟨_, _, _, qu (0 + k38), ⟨k38, IntKind.i64.wrap (x36 + 1), rfl, rfl, rfl, h⟩, .s⟩
   rw [if_neg hc40] at h
   have t49 := eq_false hc40
   refine zM ?_
   apply hZ24
   refine rgE tok [1, 5, 6] fun K hK => ?_
   simp only [go_sem, qb, qa, hw21, t49]
   apply hK
   exact ⟨_, _, _, qu q21.length, ⟨p21 ++ [y21], q21, x17 + 1, l15 ++ [y21.fName], v16 + 1, rfl, rfl, rfl, hE'21, hi'21, h⟩, (.t [0, 1] false)⟩
 obtain ⟨hz10, hw10, hx10, hE'10, hi'10⟩ := yg hE10 hi10 hb10
 simp only [zU.l10] at h
 refine zd fun Z50 hZ50 => ?_
 refine rg tok [1, 3, 4, 17] fun K hK => ?_
 simp only [go_sem, qb, qa, qd, hz10]
 apply hK
 refine zB rfl ?_
 refine zh ?_
 apply hZ50
 refine zd fun Z51 hZ51 => ?_
 refine zk ?_
 refine rcE [1, 3, 4] fun K hK => ?_
 refine zb tok 2 ?_
 simp only [go_sem, qb, qa]
 refine zo 8 (fun L τ => L = ([(1, .op 0 0 0), (3, .bool x6), (4, .int .i64 x7), (29, .bool (x6 || (decide (y10.fN = 0))))] : List (Nat × AV)) ∧ τ = ([.cells 0 (encGEnumeration a0)] : Store)) ?_ ?_
 · refine zQ (b := x6) 21 rfl (fun hg21 => ?_) (fun hg21 => ?_)
   · refine zb tok 8 ?_
     simp only [go_sem, qb, qa]
     refine za ⟨rfl, _, _, ⟨rfl, rfl⟩, .b hg21⟩
   have f52 := E88.idxS hx10
   have f53 := E88.fldS (f := 3) rfl rfl hx10 (o := 1) (by decide)
   refine zb tok 8 ?_
   simp only [go_sem, qb, qa, qd, encGNamed, f52, f53]
   refine za ⟨rfl, _, _, ⟨rfl, rfl⟩, .b hg21⟩
 rintro _ _ ⟨rfl, rfl⟩
 refine zb tok 1 ?_
 simp only [go_sem, qb, qa]
 refine za ?_
 simp only [ze, upd, qa, reduceIte, zl, zq]
 apply hK
 apply hZ51
 refine rgE tok [1, 3, 4] fun K hK => ?_
 simp only [go_sem, qb, qa, hw10]
 apply hK
 exact ⟨_, _, _, qu q10.length, ⟨p10 ++ [y10], q10, x7 + 1, (x6 || (decide (y10.fN = 0))), rfl, rfl, rfl, hE'10, hi'10, h⟩, .s⟩
theorem zU.ev (a0 : GEnumeration) (r : Int) (h : zU a0 = some r) (σ : Store) : ACalls qh 70 [.agg (encGEnumeration a0)] σ (fun r' σ' => r' = .int .i64 r ∧ σ' = σ) :=
 (zU.ok a0 r h).c σ
def ym.l17 : List GEnumeration → Int → List (List UInt8) → Option Int
 | [], x13, l11 => some 0
 | y17 :: q17, x13, l11 => (yd y17.fName l11).bind fun r24 => (if (!r24) = true then some 6 else (YN (qc l11 + 1) 16).bind fun _u28 => (zU y17).bind fun r32 => (if r32 = 0 then ((ym.l17 q17) (x13 + 1) (l11 ++ [y17.fName])) else some r32))
def ym.l8 (a0 : GSchema) : List GMessage → Int → List (List UInt8) → Option Int
 | [], x4, l2 => (ym.l17 a0.fEnums 0 l2)
 | y8 :: q8, x4, l2 => (yd y8.fName l2).bind fun r41 => (if (!r41) = true then some 6 else (YN (qc l2 + 1) 16).bind fun _u45 => (zC a0 y8).bind fun r49 => (if r49 = 0 then ((ym.l8 a0 q8) (x4 + 1) (l2 ++ [y8.fName])) else some r49))
def ym (a0 : GSchema) : Option Int :=
 (ym.l8 a0 a0.fMessages 0 ([] : List (List UInt8)))
theorem ym.ok (a0 : GSchema) (r : Int) (h : ym a0 = some r) : ACalls qh 42 [.agg (encGSchema a0)] [] (fun r' _ => r' = .int .i64 r) := by
 refine zn (rs := [.tmp 2]) tok Tryd.func42 rfl Tryd.ntmps42 rfl Tryd.call42 (by simp) ?_
 refine zt [(0, .agg (encGSchema a0))] ⟨rfl, trivial⟩ ?_
 unfold ym at h
 refine rg tok [1] fun K hK => ?_
 simp only [go_sem, qb, qa, qd, reduceCtorEq, encGSchema]
 apply hK
 refine rg tok [1, 3] fun K hK => ?_
 simp only [go_sem, qb, qa]
 apply hK
 refine Zm 3 1 rfl ?_
 refine yc (L := [(1, .op 0 0 0), (3, .os true 1 1 0 0 (qc ([] : List (List UInt8))) false)]) (τ := [.cells 0 (encGSchema a0), .cells 0 (qg encS ([] : List (List UInt8)))]) .s ?_
 refine zd fun Z1 hZ1 => ?_
 refine rg tok [1, 3, 4] fun K hK => ?_
 simp only [go_sem, qb, qa]
 apply hK
 refine zk ?_
 refine xJ 0 rfl fun hb8 => ?_
 replace hb8 : qc a0.fMessages ≤ 9223372036854775807 := hb8.2.1.1
 refine zF (fun m L τ => ∃ (p8 q8 : List GMessage) (x4 : Int) (l2 : List (List UInt8)) (v3 : Nat), m = qc q8 ∧ L = ([(1, .op 0 0 0), (3, .os true 1 1 v3 0 (qc l2) false), (4, .int .i64 x4)] : List (Nat × AV)) ∧ τ = ([.cells 0 (encGSchema a0), .cells v3 (qg encS l2)] : Store) ∧ a0.fMessages = p8 ++ q8 ∧ x4 = (qc p8 : Int) ∧ ym.l8 a0 q8 x4 l2 = some r) _ ⟨[], a0.fMessages, 0, ([] : List (List UInt8)), 0, rfl, rfl, rfl, rfl, rfl, h⟩ .s ?_
 rintro m L τ ⟨p8, q8, x4, l2, v3, rfl, rfl, rfl, hE8, hi8, h⟩
 rcases q8 with _ | ⟨y8, q8⟩
 · have hz8 := yz hE8 hi8
   simp only [ym.l8] at h
   refine zd fun Z9 hZ9 => ?_
   refine rg tok [1, 3, 4, 12] fun K hK => ?_
   simp only [go_sem, qb, qa, qd, hz8]
   apply hK
   refine zz rfl ?_
   refine zM ?_
   apply hZ1
   refine zd fun Z10 hZ10 => ?_
   refine rg tok [1, 3, 6] fun K hK => ?_
   simp only [go_sem, qb, qa]
   apply hK
   refine zk ?_
   refine xJ 0 rfl fun hb17 => ?_
   replace hb17 : qc a0.fEnums ≤ 9223372036854775807 := hb17.2.2.1.1
   refine zF (fun m L τ => ∃ (p17 q17 : List GEnumeration) (x13 : Int) (l11 : List (List UInt8)) (v12 : Nat), m = qc q17 ∧ L = ([(1, .op 0 0 0), (3, .os true 1 1 v12 0 (qc l11) false), (6, .int .i64 x13)] : List (Nat × AV)) ∧ τ = ([.cells 0 (encGSchema a0), .cells v12 (qg encS l11)] : Store) ∧ a0.fEnums = p17 ++ q17 ∧ x13 = (qc p17 : Int) ∧ ym.l17 q17 x13 l11 = some r) _ ⟨[], a0.fEnums, 0, l2, v3, rfl, rfl, rfl, rfl, rfl, h⟩ .s ?_
   rintro m L τ ⟨p17, q17, x13, l11, v12, rfl, rfl, rfl, hE17, hi17, h⟩
   rcases q17 with _ | ⟨y17, q17⟩
   · have hz17 := yz hE17 hi17
     simp only [ym.l17] at h
     refine zd fun Z18 hZ18 => ?_
     refine rg tok [1, 3, 6, 47] fun K hK => ?_
     simp only [go_sem, qb, qa, qd, hz17]
     apply hK
     refine zz rfl ?_
     refine zM ?_
     apply hZ10
     refine rg tok [2] fun K hK => ?_
     simp only [go_sem, qb, qa]
     apply hK
     refine zj ?_
     obtain rfl := Option.some.inj h
     exact yr
   obtain ⟨hz17, hw17, hx17, hE'17, hi'17⟩ := yg hE17 hi17 hb17
   simp only [ym.l17] at h
   refine zd fun Z19 hZ19 => ?_
   refine rg tok [1, 3, 6, 47] fun K hK => ?_
   simp only [go_sem, qb, qa, qd, hz17]
   apply hK
   refine zB rfl ?_
   refine zh ?_
   apply hZ19
   refine zd fun Z20 hZ20 => ?_
   refine zk ?_
   refine zd fun Z21 hZ21 => ?_
   refine rc [1, 3, 6, 58] fun K hK => ?_
   have f22 := E28.idxS hx17
   have f23 := E28.fldS0 (f := 9) rfl rfl hx17
   obtain ⟨r24, hr24, h⟩ := bind_some h
   refine zb tok 7 ?_
   simp only [go_sem, qb, qa, qd, encGEnumeration, f22, f23]
   refine zi rfl rfl rfl (yd.ok y17.fName l11 r24 hr24).ld ?_
   rintro _ _ ⟨rfl, rfl⟩
   refine zb tok 1 ?_
   simp only [go_sem, qb, qa]
   refine za ?_
   simp only [ze, upd, qa, reduceIte, zl, zq]
   apply hK
   refine zv (b := (!r24)) rfl (fun hc25 => ?_) (fun hc25 => ?_)
   · rw [if_pos hc25] at h
     refine rg tok [2] fun K hK => ?_
     simp only [go_sem, qb, qa]
     apply hK
     refine zj ?_
     obtain rfl := Option.some.inj h
     exact yr
   rw [xD hc25] at h
   refine zh ?_
   apply hZ21
   have f26 := E28.idxS hx17
   have f27 := E28.fldS0 (f := 9) rfl rfl hx17
   obtain ⟨_u28, hu28, h⟩ := bind_some h
   have gu28 := yy hu28
   have f29 := (zK E94.len l11)
   refine rg tok [1, 3, 6] fun K hK => ?_
   simp only [go_sem, qb, qe, qa, qd, qw, zR, z8, ug, qY, true_and, ul, yn, zY, yq, encGEnumeration, f26, f27, gu28, f29, yS, uf, qZ, AV.one, qS, qA, qk, qn, qt, qC]
   apply hK
   refine yc (L := [(1, .op 0 0 0), (3, .os true 1 1 (v12 + 1) 0 (qc (l11 ++ [y17.fName])) false), (6, .int .i64 x13)]) (τ := [.cells 0 (encGSchema a0), .cells (v12 + 1) (qg encS (l11 ++ [y17.fName])), .cells 0 [.str y17.fName]]) .s ?_
   refine rc [1, 3, 6, 7] fun K hK => ?_
   have f30 := E28.idxS hx17
   have f31 := E28.loadS rfl rfl hx17
   obtain ⟨r32, hr32, h⟩ := bind_some h
   refine zb tok 5 ?_
   simp only [go_sem, qb, qa, qd, encGEnumeration, f30, f31]
   refine zi rfl rfl rfl (zU.ev y17 r32 hr32 _) ?_
   rintro _ _ ⟨rfl, rfl⟩
   refine zb tok 1 ?_
   simp only [go_sem, qb, qa]
   refine za ?_
   simp only [ze, upd, qa, reduceIte, zl, zq]
   apply hK
   refine rg tok [1, 3, 6, 7, 75] fun K hK => ?_
   simp only [go_sem, qb, qa]
   apply hK
   refine zI rfl (fun hc33 => ?_) (fun hc33 => ?_)
   · rw [if_neg hc33] at h
     have t34 := eq_false hc33
     refine rg tok [2] fun K hK => ?_
     simp only [go_sem, qb, qa, t34]
     apply hK
     refine zj ?_
     obtain rfl := Option.some.inj h
     exact yr
   rw [if_pos hc33] at h
   have t35 := eq_true hc33
   refine zh ?_
   apply hZ20
   refine rgE tok [1, 3, 6] fun K hK => ?_
   simp only [go_sem, qb, qa, hw17, t35]
   apply hK
   exact ⟨_, _, _, qu q17.length, ⟨p17 ++ [y17], q17, x13 + 1, l11 ++ [y17.fName], v12 + 1, rfl, rfl, rfl, hE'17, hi'17, h⟩, (.t [0, 1] false)⟩
 obtain ⟨hz8, hw8, hx8, hE'8, hi'8⟩ := yg hE8 hi8 hb8
 simp only [ym.l8] at h
 refine zd fun Z36 hZ36 => ?_
 refine rg tok [1, 3, 4, 12] fun K hK => ?_
 simp only [go_sem, qb, qa, qd, hz8]
 apply hK
 refine zB rfl ?_
 refine zh ?_
 apply hZ36
 refine zd fun Z37 hZ37 => ?_
 refine zk ?_
 refine zd fun Z38 hZ38 => ?_
 refine rc [1, 3, 4, 23] fun K hK => ?_
 have f39 := E27.idxS hx8
 have f40 := E27.fldS0 (f := 9) rfl rfl hx8
 obtain ⟨r41, hr41, h⟩ := bind_some h
 refine zb tok 7 ?_
 simp only [go_sem, qb, qa, qd, encGMessage, f39, f40]
 refine zi rfl rfl rfl (yd.ok y8.fName l2 r41 hr41).ld ?_
 rintro _ _ ⟨rfl, rfl⟩
 refine zb tok 1 ?_
 simp only [go_sem, qb, qa]
 refine za ?_
 simp only [ze, upd, qa, reduceIte, zl, zq]
 apply hK
 refine zv (b := (!r41)) rfl (fun hc42 => ?_) (fun hc42 => ?_)
 · rw [if_pos hc42] at h
   refine rg tok [2] fun K hK => ?_
   simp only [go_sem, qb, qa]
   apply hK
   refine zj ?_
   obtain rfl := Option.some.inj h
   exact yr
 rw [xD hc42] at h
 refine zh ?_
 apply hZ38
 have f43 := E27.idxS hx8
 have f44 := E27.fldS0 (f := 9) rfl rfl hx8
 obtain ⟨_u45, hu45, h⟩ := bind_some h
 have gu45 := yy hu45
 have f46 := (zK E94.len l2)
 refine rg tok [1, 3, 4] fun K hK => ?_
 simp only [go_sem, qb, qe, qa, qd, qw, zR, z8, ug, qY, true_and, ul, yn, zY, yq, encGMessage, f43, f44, gu45, f46, yS, uf, qZ, AV.one, qS, qA, qk, qn, qt, qC]
 apply hK
 refine yc (L := [(1, .op 0 0 0), (3, .os true 1 1 (v3 + 1) 0 (qc (l2 ++ [y8.fName])) false), (4, .int .i64 x4)]) (τ := [.cells 0 (encGSchema a0), .cells (v3 + 1) (qg encS (l2 ++ [y8.fName])), .cells 0 [.str y8.fName]]) .s ?_
 have f47 := E27.idxS hx8
 have f48 := E27.loadS rfl rfl hx8
 obtain ⟨r49, hr49, h⟩ := bind_some h
 refine rd [1, 3, 4, 5] fun K hK => ?_
 refine DW.start (T := tab) [.at [], .any, .at [], .any, .any, .at [], .eff, .any] [] ?_
 refine DW.runN tok 6 ?_
 simp only [go_sem, qb, qe, qa, qd, encGMessage, f47, f48]
 refine DW.call rfl rfl rfl (zC.ev a0 y8 r49 hr49 _) ?_
 refine DW.runN tok 1 ?_
 simp only [go_sem, qb, qa]
 refine DW.fin tok (by decide +kernel) rfl ?_
 simp only [ze, upd, qa, reduceIte, zl, zq]
 apply hK
 refine rg tok [1, 3, 4, 5, 41] fun K hK => ?_
 simp only [go_sem, qb, qa]
 apply hK
 refine zI rfl (fun hc50 => ?_) (fun hc50 => ?_)
 · rw [if_neg hc50] at h
   have t51 := eq_false hc50
   refine rg tok [2] fun K hK => ?_
   simp only [go_sem, qb, qa, t51]
   apply hK
   refine zj ?_
   obtain rfl := Option.some.inj h
   exact yr
 rw [if_pos hc50] at h
 have t52 := eq_true hc50
 refine zh ?_
 apply hZ37
 refine rgE tok [1, 3, 4] fun K hK => ?_
 simp only [go_sem, qb, qa, hw8, t52]
 apply hK
 exact ⟨_, _, _, qu q8.length, ⟨p8 ++ [y8], q8, x4 + 1, l2 ++ [y8.fName], v3 + 1, rfl, rfl, rfl, hE'8, hi'8, h⟩, (.t [0, 1] false)⟩
theorem ym.ev (a0 : GSchema) (r : Int) (h : ym a0 = some r) (σ : Store) : ACalls qh 42 [.agg (encGSchema a0)] σ (fun r' σ' => r' = .int .i64 r ∧ σ' = σ) :=
 (ym.ok a0 r h).c σ
def yL.l22 (a0 : GSchema) : List GMethod → Int → List (List UInt8) → Option Int
 | [], x18, l16 => some 0
 | y22 :: q22, x18, l16 => (yd y22.fName l16).bind fun r29 => (if (!r29) = true then some 6 else (YN (qc l16 + 1) 16).bind fun _u31 => bnd (yh a0 y22.fIn) fun r33 => bnd (yh a0 y22.fOut) fun r34 => (if ((!r33.2) || (!r34.2)) = true then some 8 else ((yL.l22 a0 q22) (x18 + 1) (l16 ++ [y22.fName]))))
def yL (a0 : GSchema) : Option Int :=
 (yM a0.fName).bind fun r2 => (if (!r2) = true then some 6 else (if (qc a0.fMessages : Int) = 0 then some 12 else (if (((decide (10 < (qc a0.fMessages : Int))) || (decide (6 < (qc a0.fEnums : Int)))) || (decide (6 < (qc a0.fMethods : Int)))) = true then some 4 else (ym a0).bind fun r11 => (if r11 = 0 then (yL.l22 a0 a0.fMethods 0 ([] : List (List UInt8))) else some r11))))
theorem yL.ok (a0 : GSchema) (r : Int) (h : yL a0 = some r) : ACalls qh 23 [.agg (encGSchema a0)] [] (fun r' _ => r' = .int .i64 r) := by
 refine zn (rs := [.tmp 2]) tok Tryd.func23 rfl Tryd.ntmps23 rfl Tryd.call23 (by simp) ?_
 refine zt [(0, .agg (encGSchema a0))] ⟨rfl, trivial⟩ ?_
 unfold yL at h
 refine rg tok [1] fun K hK => ?_
 simp only [go_sem, qb, qa, qd, reduceCtorEq, encGSchema]
 apply hK
 refine zd fun Z1 hZ1 => ?_
 refine zk ?_
 refine rc [1, 11] fun K hK => ?_
 obtain ⟨r2, hr2, h⟩ := bind_some h
 refine zb tok 2 ?_
 simp only [go_sem, qb, qa, qd]
 refine zi rfl rfl rfl (yM.ev a0.fName r2 hr2 _) ?_
 rintro _ _ ⟨rfl, rfl⟩
 refine zb tok 2 ?_
 simp only [go_sem, qb, qa]
 refine za ?_
 simp only [ze, upd, qa, reduceIte, zl, zq]
 apply hK
 refine zv (b := (!r2)) rfl (fun hc3 => ?_) (fun hc3 => ?_)
 · rw [if_pos hc3] at h
   refine rg tok [2] fun K hK => ?_
   simp only [go_sem, qb, qa]
   apply hK
   refine zj ?_
   obtain rfl := Option.some.inj h
   exact yr
 rw [xD hc3] at h
 refine rg tok [1, 16] fun K hK => ?_
 simp only [go_sem, qb, qa, qd]
 apply hK
 refine zI rfl (fun hc4 => ?_) (fun hc4 => ?_)
 · rw [if_pos hc4] at h
   have t5 := eq_true hc4
   refine rg tok [2] fun K hK => ?_
   simp only [go_sem, qb, qa, t5]
   apply hK
   refine zj ?_
   obtain rfl := Option.some.inj h
   exact yr
 rw [if_neg hc4] at h
 have t6 := eq_false hc4
 refine rc [1, 21] fun K hK => ?_
 refine zb tok 5 ?_
 simp only [go_sem, qb, qa, qd, t6]
 refine zo 5 (fun L τ => L = ([(1, .op 0 0 0), (31, .bool ((decide (10 < (qc a0.fMessages : Int))) || (decide (6 < (qc a0.fEnums : Int)))))] : List (Nat × AV)) ∧ τ = ([.cells 0 (encGSchema a0)] : Store)) ?_ ?_
 · refine yN 26 rfl (fun hg26 => ?_) (fun hg26 => ?_)
   · have t7 := eq_true hg26
     refine zb tok 5 ?_
     simp only [go_sem, qb, qa]
     refine za ⟨rfl, _, _, ⟨rfl, rfl⟩, .p t7⟩
   have t8 := eq_false hg26
   refine zb tok 5 ?_
   simp only [go_sem, qb, qa, qd]
   refine za ⟨rfl, _, _, ⟨rfl, rfl⟩, .p t8⟩
 rintro _ _ ⟨rfl, rfl⟩
 refine zb tok 1 ?_
 simp only [go_sem, qb, qa]
 refine zo 5 (fun L τ => L = ([(1, .op 0 0 0), (37, .bool (((decide (10 < (qc a0.fMessages : Int))) || (decide (6 < (qc a0.fEnums : Int)))) || (decide (6 < (qc a0.fMethods : Int)))))] : List (Nat × AV)) ∧ τ = ([.cells 0 (encGSchema a0)] : Store)) ?_ ?_
 · refine zQ (b := ((decide (10 < (qc a0.fMessages : Int))) || (decide (6 < (qc a0.fEnums : Int))))) 32 rfl (fun hg32 => ?_) (fun hg32 => ?_)
   · refine zb tok 5 ?_
     simp only [go_sem, qb, qa]
     refine za ⟨rfl, _, _, ⟨rfl, rfl⟩, .b hg32⟩
   refine zb tok 5 ?_
   simp only [go_sem, qb, qa, qd]
   refine za ⟨rfl, _, _, ⟨rfl, rfl⟩, .b hg32⟩
 rintro _ _ ⟨rfl, rfl⟩
 refine zb tok 1 ?_
 simp only [go_sem, qb, qa]
 refine za ?_
 simp only [ze, upd, qa, reduceIte, zl, zq]
 apply hK
 refine zv (b := (((decide (10 < (qc a0.fMessages : Int))) || (decide (6 < (qc a0.fEnums : Int)))) || (decide (6 < (qc a0.fMethods : Int))))) rfl (fun hc9 => ?_) (fun hc9 => ?_)
 · rw [if_pos hc9] at h
   refine rg tok [2] fun K hK => ?_
   simp only [go_sem, qb, qa]
   apply hK
   refine zj ?_
   obtain rfl := Option.some.inj h
   exact yr
 rw [xD hc9] at h
 refine zh ?_
 apply hZ1
 refine zd fun Z10 hZ10 => ?_
 refine rc [1, 3] fun K hK => ?_
 obtain ⟨r11, hr11, h⟩ := bind_some h
 refine zb tok 1 ?_
 simp only [go_sem, qb, qe, qa, qd]
 refine zi rfl rfl rfl (ym.ev a0 r11 hr11 _) ?_
 rintro _ _ ⟨rfl, rfl⟩
 refine zb tok 1 ?_
 simp only [go_sem, qb, qa]
 refine za ?_
 simp only [ze, upd, qa, reduceIte, zl, zq]
 apply hK
 refine rg tok [1, 3, 41] fun K hK => ?_
 simp only [go_sem, qb, qa]
 apply hK
 refine zI rfl (fun hc12 => ?_) (fun hc12 => ?_)
 · rw [if_neg hc12] at h
   have t13 := eq_false hc12
   refine rg tok [2] fun K hK => ?_
   simp only [go_sem, qb, qa, t13]
   apply hK
   refine zj ?_
   obtain rfl := Option.some.inj h
   exact yr
 rw [if_pos hc12] at h
 have t14 := eq_true hc12
 refine zh ?_
 apply hZ10
 refine rg tok [1, 4] fun K hK => ?_
 simp only [go_sem, qb, qa, t14]
 apply hK
 refine Zm 4 1 rfl ?_
 refine yc (L := [(1, .op 0 0 0), (4, .os true 1 1 0 0 (qc ([] : List (List UInt8))) false)]) (τ := [.cells 0 (encGSchema a0), .cells 0 (qg encS ([] : List (List UInt8)))]) .s ?_
 refine zd fun Z15 hZ15 => ?_
 refine rg tok [1, 4, 5] fun K hK => ?_
 simp only [go_sem, qb, qa]
 apply hK
 refine zk ?_
 refine xJ 0 rfl fun hb22 => ?_
 replace hb22 : qc a0.fMethods ≤ 9223372036854775807 := hb22.2.2.2.1.1
 refine zF (fun m L τ => ∃ (p22 q22 : List GMethod) (x18 : Int) (l16 : List (List UInt8)) (v17 : Nat), m = qc q22 ∧ L = ([(1, .op 0 0 0), (4, .os true 1 1 v17 0 (qc l16) false), (5, .int .i64 x18)] : List (Nat × AV)) ∧ τ = ([.cells 0 (encGSchema a0), .cells v17 (qg encS l16)] : Store) ∧ a0.fMethods = p22 ++ q22 ∧ x18 = (qc p22 : Int) ∧ yL.l22 a0 q22 x18 l16 = some r) _ ⟨[], a0.fMethods, 0, ([] : List (List UInt8)), 0, rfl, rfl, rfl, rfl, rfl, h⟩ .s ?_
 rintro m L τ ⟨p22, q22, x18, l16, v17, rfl, rfl, rfl, hE22, hi22, h⟩
 rcases q22 with _ | ⟨y22, q22⟩
 · have hz22 := yz hE22 hi22
   simp only [yL.l22] at h
   refine zd fun Z23 hZ23 => ?_
   refine rg tok [1, 4, 5, 47] fun K hK => ?_
   simp only [go_sem, qb, qa, qd, hz22]
   apply hK
   refine zz rfl ?_
   refine zM ?_
   apply hZ15
   refine rg tok [2] fun K hK => ?_
   simp only [go_sem, qb, qa]
   apply hK
   refine zj ?_
   obtain rfl := Option.some.inj h
   exact yr
 obtain ⟨hz22, hw22, hx22, hE'22, hi'22⟩ := yg hE22 hi22 hb22
 simp only [yL.l22] at h
 refine zd fun Z24 hZ24 => ?_
 refine rg tok [1, 4, 5, 47] fun K hK => ?_
 simp only [go_sem, qb, qa, qd, hz22]
 apply hK
 refine zB rfl ?_
 refine zh ?_
 apply hZ24
 refine zd fun Z25 hZ25 => ?_
 refine zk ?_
 have f26 := E29.idxS hx22
 have f27 := E29.loadS rfl rfl hx22
 refine rg tok [1, 4, 5, 6] fun K hK => ?_
 simp only [go_sem, qb, qe, qa, qd, encGMethod, f26, f27]
 apply hK
 refine zd fun Z28 hZ28 => ?_
 refine rc [1, 4, 5, 6, 59] fun K hK => ?_
 obtain ⟨r29, hr29, h⟩ := bind_some h
 refine zb tok 3 ?_
 simp only [go_sem, qb, qa, qd]
 refine zi rfl rfl rfl (yd.ok y22.fName l16 r29 hr29).ld ?_
 rintro _ _ ⟨rfl, rfl⟩
 refine zb tok 1 ?_
 simp only [go_sem, qb, qa]
 refine za ?_
 simp only [ze, upd, qa, reduceIte, zl, zq]
 apply hK
 refine zv (b := (!r29)) rfl (fun hc30 => ?_) (fun hc30 => ?_)
 · rw [if_pos hc30] at h
   refine rg tok [2] fun K hK => ?_
   simp only [go_sem, qb, qa]
   apply hK
   refine zj ?_
   obtain rfl := Option.some.inj h
   exact yr
 rw [xD hc30] at h
 refine zh ?_
 apply hZ28
 obtain ⟨_u31, hu31, h⟩ := bind_some h
 have gu31 := yy hu31
 have f32 := (zK E94.len l16)
 refine rg tok [1, 4, 5, 6] fun K hK => ?_
 simp only [go_sem, qb, qe, qa, qd, qw, zR, z8, ug, qY, true_and, ul, yn, zY, yq, gu31, f32, yS, uf, qZ, AV.one, qS, qA, qk, qn, qt, qC]
 apply hK
 refine yc (L := [(1, .op 0 0 0), (4, .os true 1 1 (v17 + 1) 0 (qc (l16 ++ [y22.fName])) false), (5, .int .i64 x18), (6, .op 2 0 0)]) (τ := [.cells 0 (encGSchema a0), .cells (v17 + 1) (qg encS (l16 ++ [y22.fName])), .cells 0 [.str y22.fName, .str y22.fIn, .str y22.fOut], .cells 0 [.str y22.fName]]) .s ?_
 refine rc [1, 4, 5, 6, 8] fun K hK => ?_
 obtain ⟨r33, hr33, h⟩ := zS h
 refine zb tok 3 ?_
 simp only [go_sem, qb, qe, qa, qd]
 refine zi rfl rfl rfl (yh.ev a0 y22.fIn r33 hr33 _) ?_
 rintro _ _ ⟨rfl, rfl⟩
 refine zb tok 6 ?_
 simp only [go_sem, qb, qe, qa, qd, encGMessage]
 refine za ?_
 simp only [ze, upd, qa, reduceIte, zl, zq]
 apply hK
 refine rc [1, 4, 5, 8, 10] fun K hK => ?_
 obtain ⟨r34, hr34, h⟩ := zS h
 refine zb tok 3 ?_
 simp only [go_sem, qb, qe, qa, qd]
 refine zi rfl rfl rfl (yh.ev a0 y22.fOut r34 hr34 _) ?_
 rintro _ _ ⟨rfl, rfl⟩
 refine zb tok 6 ?_
 simp only [go_sem, qb, qe, qa, qd, encGMessage]
 refine za ?_
 simp only [ze, upd, qa, reduceIte, zl, zq]
 apply hK
 refine rc [1, 4, 5, 84] fun K hK => ?_
 refine zb tok 3 ?_
 simp only [go_sem, qb, qa]
 refine zo 3 (fun L τ => L = ([(1, .op 0 0 0), (4, .os true 1 1 (v17 + 1) 0 (qc (l16 ++ [y22.fName])) false), (5, .int .i64 x18), (84, .bool ((!r33.2) || (!r34.2)))] : List (Nat × AV)) ∧ τ = ([.cells 0 (encGSchema a0), .cells (v17 + 1) (qg encS (l16 ++ [y22.fName])), .cells 0 [.str y22.fName, .str y22.fIn, .str y22.fOut], .cells 0 [.str y22.fName], .cells 0 (encGMessage r33.1), .cells 0 (encGMessage r34.1)] : Store)) ?_ ?_
 · refine zQ (b := (!r33.2)) 81 rfl (fun hg81 => ?_) (fun hg81 => ?_)
   · refine zb tok 3 ?_
     simp only [go_sem, qb, qa]
     refine za ⟨rfl, _, _, ⟨rfl, rfl⟩, .b hg81⟩
   refine zb tok 3 ?_
   simp only [go_sem, qb, qa]
   refine za ⟨rfl, _, _, ⟨rfl, rfl⟩, .b hg81⟩
 rintro _ _ ⟨rfl, rfl⟩
 refine za ?_
 simp only [ze, qa, reduceIte, zl, zq]
 apply hK
 refine zv (b := ((!r33.2) || (!r34.2))) rfl (fun hc35 => ?_) (fun hc35 => ?_)
 · rw [if_pos hc35] at h
   refine rg tok [2] fun K hK => ?_
   simp only [go_sem, qb, qa]
   apply hK
   refine zj ?_
   obtain rfl := Option.some.inj h
   exact yr
 rw [xD hc35] at h
 refine zh ?_
 apply hZ25
 refine rgE tok [1, 4, 5] fun K hK => ?_
 simp only [go_sem, qb, qa, hw22]
 apply hK
 exact ⟨_, _, _, qu q22.length, ⟨p22 ++ [y22], q22, x18 + 1, l16 ++ [y22.fName], v17 + 1, rfl, rfl, rfl, hE'22, hi'22, h⟩, (.t [0, 1] false)⟩
theorem yL.ev (a0 : GSchema) (r : Int) (h : yL a0 = some r) (σ : Store) : ACalls qh 23 [.agg (encGSchema a0)] σ (fun r' σ' => r' = .int .i64 r ∧ σ' = σ) :=
 (yL.ok a0 r h).c σ
def yG.l4 (a1 : List UInt8) : List GMethod → Int → GMethod × Bool
 | [], x2 => ((⟨[], [], []⟩ : GMethod), false)
 | y4 :: q4, x2 => (if y4.fName = a1 then (y4, true) else ((yG.l4 a1 q4) (x2 + 1)))
def yG (a0 : GSchema) (a1 : List UInt8) : GMethod × Bool :=
 (yG.l4 a1 a0.fMethods 0)
theorem yG.ok (a0 : GSchema) (a1 : List UInt8) (r : GMethod × Bool) (h : yG a0 a1 = r) : ACalls qh 45 [.agg (encGSchema a0), .str a1] [] (fun r' _ => r' = .tup [.agg (encGMethod r.1), .bool r.2]) := by
 refine zn (rs := [.cell 4 73, .tmp 5]) tok Tryd.func45 rfl Tryd.ntmps45 rfl Tryd.call45 (by simp) ?_
 refine zt [(0, .agg (encGSchema a0)), (1, .str a1)] ⟨rfl, rfl, trivial⟩ ?_
 unfold yG at h
 refine rg tok [1, 2, 4] fun K hK => ?_
 simp only [go_sem, qb, qa, qd, reduceCtorEq, encGSchema]
 apply hK
 refine zd fun Z1 hZ1 => ?_
 refine rg tok [1, 4, 9, 10, 11] fun K hK => ?_
 simp only [go_sem, qb, qa, qd]
 apply hK
 refine zk ?_
 refine yW 9 fun hb4 => ?_
 replace hb4 : qc a0.fMethods ≤ 9223372036854775807 := hb4.1
 refine zF (fun m L τ => ∃ (p4 q4 : List GMethod) (x2 : Int), m = qc q4 ∧ L = ([(1, .str a1), (4, .op 0 0 0), (9, .ds true (qg encGMethod a0.fMethods) (qc a0.fMethods) false), (10, .int .i64 (qc a0.fMethods : Int)), (11, .int .i64 x2)] : List (Nat × AV)) ∧ τ = ([.cells 0 [.str [], .str [], .str []]] : Store) ∧ a0.fMethods = p4 ++ q4 ∧ x2 = (qc p4 : Int) ∧ yG.l4 a1 q4 x2 = r) _ ⟨[], a0.fMethods, 0, rfl, rfl, rfl, rfl, rfl, h⟩ (.t [1] false) ?_
 rintro m L τ ⟨p4, q4, x2, rfl, rfl, rfl, hE4, hi4, h⟩
 rcases q4 with _ | ⟨y4, q4⟩
 · have hz4 := yz hE4 hi4
   simp only [yG.l4] at h
   refine rg tok [1, 4, 9, 10, 11, 12] fun K hK => ?_
   simp only [go_sem, qb, qa, hz4]
   apply hK
   refine zd fun Z5 hZ5 => ?_
   refine zz rfl ?_
   refine zM ?_
   apply hZ1
   refine rg tok [4, 5] fun K hK => ?_
   simp only [go_sem, qb, qe, qa, qd]
   apply hK
   refine zj ?_
   obtain rfl := h
   exact yr
 obtain ⟨hz4, hw4, hx4, hE'4, hi'4⟩ := yg hE4 hi4 hb4
 simp only [yG.l4] at h
 refine rg tok [1, 4, 9, 10, 11, 12] fun K hK => ?_
 simp only [go_sem, qb, qa, hz4]
 apply hK
 refine zd fun Z6 hZ6 => ?_
 refine zB rfl ?_
 refine zh ?_
 apply hZ6
 refine zd fun Z7 hZ7 => ?_
 refine zk ?_
 have f8 := E29.idxS hx4
 have f9 := E29.loadS rfl rfl hx4
 refine rg tok [1, 4, 7, 9, 10, 11] fun K hK => ?_
 simp only [go_sem, qb, qe, qa, qd, encGMethod, f8, f9]
 apply hK
 refine rg tok [1, 4, 7, 9, 10, 11, 18] fun K hK => ?_
 simp only [go_sem, qb, qa, qd]
 apply hK
 refine zI rfl (fun hc10 => ?_) (fun hc10 => ?_)
 · rw [if_pos hc10] at h
   have t11 := eq_true hc10
   refine rg tok [4, 5] fun K hK => ?_
   simp only [go_sem, qb, qe, qa, qd, t11]
   apply hK
   refine zj ?_
   obtain rfl := h
   exact yr
 rw [if_neg hc10] at h
 have t12 := eq_false hc10
 refine zh ?_
 apply hZ7
 refine rgE tok [1, 4, 9, 10, 11] fun K hK => ?_
 simp only [go_sem, qb, qa, hw4, t12]
 apply hK
 exact ⟨_, _, _, qu q4.length, ⟨p4 ++ [y4], q4, x2 + 1, rfl, rfl, rfl, hE'4, hi'4, h⟩, (.t [0] false)⟩
theorem yG.ev (a0 : GSchema) (a1 : List UInt8) (r : GMethod × Bool) (h : yG a0 a1 = r) (σ : Store) : ACalls qh 45 [.agg (encGSchema a0), .str a1] σ (fun r' σ' => r' = .tup [.agg (encGMethod r.1), .bool r.2] ∧ σ' = σ) :=
 (yG.ok a0 a1 r h).c σ
def zJ.j8 (a0 : GSchema) (a1 : GPacket) (x7 : List UInt8) : Option (GPacket × Bool) :=
 (grd (qc a1.fBody ≤ 9223372036854775807)).bind fun _u9 => (yH a0 x7 a1.fBody).bind fun r11 => (if r11.2 = 0 then (xo r11.1).bind fun r16 => (if r16.2 = 0 then some ((⟨a1.fKind, a1.fFrom, a1.fTo, a1.fID, a1.fVersion, a1.fMethod, a1.fErr, r16.1⟩ : GPacket), true) else some ((⟨0, 0, 0, 0, 0, [], 0, []⟩ : GPacket), false)) else some ((⟨0, 0, 0, 0, 0, [], 0, []⟩ : GPacket), false))
def zJ.j23 (a0 : GSchema) (a1 : GPacket) (r6 : GMethod × Bool) (x22 : Bool) : Option (GPacket × Bool) :=
 (if x22 = true then some (a1, true) else (if a1.fKind = 4 then (zJ.j8 a0 a1 r6.1.fOut) else (zJ.j8 a0 a1 r6.1.fIn)))
def zJ (a0 : GSchema) (a1 : GPacket) : Option (GPacket × Bool) :=
 (zx a0).bind fun r2 => (if r2 = 0 then bnd (yG a0 a1.fMethod) fun r6 => (if (!r6.2) = true then (zJ.j23 a0 a1 r6 (!r6.2)) else (zJ.j23 a0 a1 r6 ((!(decide (a1.fKind = 3))) && ((!(decide (a1.fKind = 4))) || (!(decide (a1.fErr = 0))))))) else some ((⟨0, 0, 0, 0, 0, [], 0, []⟩ : GPacket), false))
theorem zJ.ok (a0 : GSchema) (a1 : GPacket) (r : GPacket × Bool) (h : zJ a0 a1 = some r) : ACalls qh 25 [.agg (encGSchema a0), .agg (encGPacket a1)] [] (fun r' _ => r' = .tup [.agg (encGPacket r.1), .bool r.2]) := by
 refine zn (rs := [.cell 4 64, .tmp 5]) tok Tryd.func25 rfl Tryd.ntmps25 rfl Tryd.call25 (by simp) ?_
 refine zt [(0, .agg (encGSchema a0)), (1, .agg (encGPacket a1))] ⟨rfl, rfl, trivial⟩ ?_
 unfold zJ at h
 refine rg tok [2, 3, 4] fun K hK => ?_
 simp only [go_sem, qb, qa, qd, reduceCtorEq, encGPacket, encGSchema]
 apply hK
 refine zd fun Z1 hZ1 => ?_
 refine rc [2, 3, 4, 14] fun K hK => ?_
 obtain ⟨r2, hr2, h⟩ := bind_some h
 refine zb tok 1 ?_
 simp only [go_sem, qb, qe, qa, qd]
 refine zi rfl rfl rfl (zx.ev a0 r2 hr2 _) ?_
 rintro _ _ ⟨rfl, rfl⟩
 refine zb tok 1 ?_
 simp only [go_sem, qb, qa]
 refine za ?_
 simp only [ze, upd, qa, reduceIte, zl, zq]
 apply hK
 refine zI rfl (fun hc3 => ?_) (fun hc3 => ?_)
 · rw [if_neg hc3] at h
   have t4 := eq_false hc3
   refine rg tok [4, 5] fun K hK => ?_
   simp only [go_sem, qb, qe, qa, qd, t4]
   apply hK
   refine zj ?_
   obtain rfl := Option.some.inj h
   exact yr
 rw [if_pos hc3] at h
 have t5 := eq_true hc3
 refine zh ?_
 apply hZ1
 refine rc [2, 3, 4, 6, 7] fun K hK => ?_
 obtain ⟨r6, hr6, h⟩ := zS h
 refine zb tok 3 ?_
 simp only [go_sem, qb, qe, qa, qd, t5]
 refine zi rfl rfl rfl (yG.ev a0 a1.fMethod r6 hr6 _) ?_
 rintro _ _ ⟨rfl, rfl⟩
 refine zb tok 6 ?_
 simp only [go_sem, qb, qe, qa, qd, encGMethod]
 refine za ?_
 simp only [ze, upd, qa, reduceIte, zl, zq]
 apply hK
 refine rg tok [2, 3, 4, 6, 7, 8] fun K hK => ?_
 simp only [go_sem, qb, qa, qd]
 apply hK
 refine xK (fun L τ => ∃ (x7 : List UInt8), L = ([(2, .op 0 0 0), (3, .op 1 0 0), (4, .op 2 0 0), (8, .str x7)] : List (Nat × AV)) ∧ τ = ([.cells 0 (encGSchema a0), .cells 0 (encGPacket a1), .cells 0 [.int .i64 0, .int .i64 0, .int .i64 0, .int .i64 0, .int .i64 0, .str [], .int .i64 0, .str []]] : Store) ∧ zJ.j8 a0 a1 x7 = some r) ?_ ?_
 · refine zk ?_
   refine xK (fun L τ => ∃ (x22 : Bool), L = ([(2, .op 0 0 0), (3, .op 1 0 0), (4, .op 2 0 0), (6, .op 3 0 0), (8, .str r6.1.fIn), (25, .bool x22)] : List (Nat × AV)) ∧ τ = ([.cells 0 (encGSchema a0), .cells 0 (encGPacket a1), .cells 0 [.int .i64 0, .int .i64 0, .int .i64 0, .int .i64 0, .int .i64 0, .str [], .int .i64 0, .str []], .cells 0 [.str r6.1.fName, .str r6.1.fIn, .str r6.1.fOut]] : Store) ∧ zJ.j23 a0 a1 r6 x22 = some r) ?_ ?_
   · refine rg tok [2, 3, 4, 6, 8, 25] fun K hK => ?_
     simp only [go_sem, qb, qa]
     apply hK
     refine zv (b := (!r6.2)) rfl (fun hc28 => ?_) (fun hc28 => ?_)
     · rw [if_pos hc28] at h
       refine zh ?_
       exact ⟨_, _, ⟨!r6.2, rfl, rfl, h⟩, .s⟩
     rw [xD hc28] at h
     refine rcE [2, 3, 4, 6, 8, 25] fun K hK => ?_
     refine zb tok 4 ?_
     simp only [go_sem, qb, qa, qd]
     refine zo 9 (fun L τ => L = ([(2, .op 0 0 0), (3, .op 1 0 0), (4, .op 2 0 0), (6, .op 3 0 0), (8, .str r6.1.fIn), (25, .bool (!r6.2)), (40, .bool ((!(decide (a1.fKind = 3))) && ((!(decide (a1.fKind = 4))) || (!(decide (a1.fErr = 0))))))] : List (Nat × AV)) ∧ τ = ([.cells 0 (encGSchema a0), .cells 0 (encGPacket a1), .cells 0 [.int .i64 0, .int .i64 0, .int .i64 0, .int .i64 0, .int .i64 0, .str [], .int .i64 0, .str []], .cells 0 [.str r6.1.fName, .str r6.1.fIn, .str r6.1.fOut]] : Store)) ?_ ?_
     · refine yN 31 rfl (fun hg31 => ?_) (fun hg31 => ?_)
       · have t29 := eq_false hg31
         refine zb tok 4 ?_
         simp only [go_sem, qb, qa, qd]
         refine zo 4 (fun L τ => L = ([(2, .op 0 0 0), (3, .op 1 0 0), (4, .op 2 0 0), (6, .op 3 0 0), (8, .str r6.1.fIn), (25, .bool (!r6.2)), (31, .bool true), (39, .bool ((!(decide (a1.fKind = 4))) || (!(decide (a1.fErr = 0)))))] : List (Nat × AV)) ∧ τ = ([.cells 0 (encGSchema a0), .cells 0 (encGPacket a1), .cells 0 [.int .i64 0, .int .i64 0, .int .i64 0, .int .i64 0, .int .i64 0, .str [], .int .i64 0, .str []], .cells 0 [.str r6.1.fName, .str r6.1.fIn, .str r6.1.fOut]] : Store)) ?_ ?_
         · refine yN 35 rfl (fun hg35 => ?_) (fun hg35 => ?_)
           · have t30 := eq_false hg35
             refine zb tok 4 ?_
             simp only [go_sem, qb, qa]
             refine za ⟨rfl, _, _, ⟨rfl, rfl⟩, .p t30⟩
           have t31 := eq_true hg35
           refine zb tok 4 ?_
           simp only [go_sem, qb, qa, qd]
           refine za ⟨rfl, _, _, ⟨rfl, rfl⟩, .p t31⟩
         rintro _ _ ⟨rfl, rfl⟩
         refine zb tok 1 ?_
         simp only [go_sem, qb, qa]
         refine za ⟨rfl, _, _, ⟨rfl, rfl⟩, .p t29⟩
       have t32 := eq_true hg31
       refine zb tok 9 ?_
       simp only [go_sem, qb, qa]
       refine za ⟨rfl, _, _, ⟨rfl, rfl⟩, .p t32⟩
     rintro _ _ ⟨rfl, rfl⟩
     refine zb tok 1 ?_
     simp only [go_sem, qb, qa]
     refine za ?_
     simp only [ze, upd, qa, reduceIte, zl, zq]
     apply hK
     exact ⟨_, _, ⟨((!(decide (a1.fKind = 3))) && ((!(decide (a1.fKind = 4))) || (!(decide (a1.fErr = 0))))), rfl, rfl, h⟩, .s⟩
   rintro _ _ ⟨x22, rfl, rfl, h⟩
   unfold zJ.j23 at h
   refine zv (b := x22) rfl (fun hc24 => ?_) (fun hc24 => ?_)
   · rw [if_pos hc24] at h
     refine rg tok [4, 5] fun K hK => ?_
     simp only [go_sem, qb, qe, qa, qd]
     apply hK
     refine zj ?_
     obtain rfl := Option.some.inj h
     exact yr
   rw [xD hc24] at h
   refine rg tok [2, 3, 4, 6, 8, 42] fun K hK => ?_
   simp only [go_sem, qb, qa, qd]
   apply hK
   refine zI rfl (fun hc25 => ?_) (fun hc25 => ?_)
   · rw [if_pos hc25] at h
     have t26 := eq_true hc25
     refine rgE tok [2, 3, 4, 8] fun K hK => ?_
     simp only [go_sem, qb, qa, qd, t26]
     apply hK
     exact ⟨_, _, ⟨r6.1.fOut, rfl, rfl, h⟩, (.t [0, 1, 2] false)⟩
   rw [if_neg hc25] at h
   have t27 := eq_false hc25
   refine zh ?_
   exact ⟨_, _, ⟨r6.1.fIn, rfl, rfl, h⟩, (.t [0, 1, 2] false)⟩
 rintro _ _ ⟨x7, rfl, rfl, h⟩
 unfold zJ.j8 at h
 refine rc [3, 4, 9, 10] fun K hK => ?_
 obtain ⟨_u9, hu9, h⟩ := bind_some h
 have gu9 := wy hu9
 have gu9t := eq_true gu9
 have f10 := conv_s2b (T := tab) (src := 9) (dst := 35) rfl rfl rfl rfl rfl rfl (wy hu9)
 obtain ⟨r11, hr11, h⟩ := bind_some h
 refine zb tok 5 ?_
 simp only [go_sem, qb, qe, qa, qd, f10]
 refine va4 (L := [(3, .op 0 0 0), (4, .op 1 0 0), (49, .agg (encGSchema a0)), (50, .str x7), (53, .ds true (qg encB a1.fBody) (qc a1.fBody) false)]) (τ := [.cells 0 (encGPacket a1), .cells 0 [.int .i64 0, .int .i64 0, .int .i64 0, .int .i64 0, .int .i64 0, .str [], .int .i64 0, .str []]]) (.t [1, 2] false) ?_
 refine zi rfl rfl rfl (yH.ev a0 x7 a1.fBody r11 hr11 _) ?_
 rintro _ _ ⟨rfl, rfl⟩
 refine zb tok 6 ?_
 simp only [go_sem, qb, qe, qa, qd, cellsGTree, encGSchema]
 refine za ?_
 simp only [ze, upd, qa, reduceIte, zl, zq]
 apply hK
 refine zd fun Z12 hZ12 => ?_
 refine rg tok [3, 4, 9, 58] fun K hK => ?_
 simp only [go_sem, qb, qa]
 apply hK
 refine zI rfl (fun hc13 => ?_) (fun hc13 => ?_)
 · rw [if_neg hc13] at h
   have t14 := eq_false hc13
   refine rg tok [4, 5] fun K hK => ?_
   simp only [go_sem, qb, qe, qa, qd, t14]
   apply hK
   refine zj ?_
   obtain rfl := Option.some.inj h
   exact yr
 rw [if_pos hc13] at h
 have t15 := eq_true hc13
 refine zh ?_
 apply hZ12
 refine rc [3, 4, 10, 11] fun K hK => ?_
 obtain ⟨r16, hr16, h⟩ := bind_some h
 refine zb tok 1 ?_
 simp only [go_sem, qb, qe, qa, qd, t15]
 refine zi rfl rfl rfl (xo.ev r11.1 r16 hr16 _) ?_
 rintro _ _ ⟨rfl, rfl⟩
 refine zb tok 5 ?_
 simp only [go_sem, qb, qa, qd]
 refine za ?_
 simp only [ze, upd, qa, reduceIte, zl, zq]
 apply hK
 refine zd fun Z17 hZ17 => ?_
 refine rg tok [3, 4, 11, 66] fun K hK => ?_
 simp only [go_sem, qb, qa]
 apply hK
 refine zI rfl (fun hc18 => ?_) (fun hc18 => ?_)
 · rw [if_neg hc18] at h
   have t19 := eq_false hc18
   refine rg tok [4, 5] fun K hK => ?_
   simp only [go_sem, qb, qe, qa, qd, t19]
   apply hK
   refine zj ?_
   obtain rfl := Option.some.inj h
   exact yr
 rw [if_pos hc18] at h
 have t20 := eq_true hc18
 refine zh ?_
 apply hZ17
 have f21 := conv_b2s (T := tab) (src := 35) (dst := 9) rfl rfl rfl rfl rfl rfl r16.1
 refine rg tok [3, 4] fun K hK => ?_
 simp only [go_sem, qb, qe, qa, qd, t20, f21]
 apply hK
 refine rg tok [4, 5] fun K hK => ?_
 simp only [go_sem, qb, qe, qa, qd]
 apply hK
 refine zj ?_
 obtain rfl := Option.some.inj h
 exact yr
theorem zJ.ev (a0 : GSchema) (a1 : GPacket) (r : GPacket × Bool) (h : zJ a0 a1 = some r) (σ : Store) : ACalls qh 25 [.agg (encGSchema a0), .agg (encGPacket a1)] σ (fun r' σ' => r' = .tup [.agg (encGPacket r.1), .bool r.2] ∧ σ' = σ) :=
 (zJ.ok a0 a1 r h).c σ
def xg  : Option Bool :=
 (zJ (⟨[97], [(⟨[109], ([] : List GField), ([] : List Int)⟩ : GMessage)], ([] : List GEnumeration), [(⟨[99], [109], [109]⟩ : GMethod)]⟩ : GSchema) (⟨1, 0, 0, 0, 0, [], 0, [1]⟩ : GPacket)).bind fun r1 => (zJ (⟨[97], [(⟨[109], ([] : List GField), ([] : List Int)⟩ : GMessage)], ([] : List GEnumeration), [(⟨[99], [109], [109]⟩ : GMethod)]⟩ : GSchema) (⟨3, 0, 0, 0, 0, [99], 0, [4, 2, 2, 2]⟩ : GPacket)).bind fun r2 => some (((r1.2 && r2.2) && (decide (r1.1.fBody = [1]))) && (decide (r2.1.fBody = [2, 2, 4, 2])))
theorem xg.ok  (r : Bool) (h : xg = some r) : ACalls qh 24 [] [] (fun r' _ => r' = .bool r) := by
 refine zn (rs := [.tmp 0]) tok Tryd.func24 rfl Tryd.ntmps24 rfl Tryd.call24 (by simp) ?_
 refine zt [] trivial ?_
 unfold xg at h
 refine rg tok [] fun K hK => ?_
 simp only [go_sem, qb]
 apply hK
 refine rg tok [1] fun K hK => ?_
 simp only [go_sem, qb, qe, qa, qd, qw, zR, z8, ug, qY, true_and, ul]
 apply hK
 refine rc [1, 2, 3] fun K hK => ?_
 obtain ⟨r1, hr1, h⟩ := bind_some h
 refine zb tok 2 ?_
 simp only [go_sem, qb, qe, qd]
 refine zi rfl rfl rfl (zJ.ok (⟨[97], [(⟨[109], ([] : List GField), ([] : List Int)⟩ : GMessage)], ([] : List GEnumeration), [(⟨[99], [109], [109]⟩ : GMethod)]⟩ : GSchema) (⟨1, 0, 0, 0, 0, [], 0, [1]⟩ : GPacket) r1 hr1).ld ?_
 rintro _ _ ⟨rfl, rfl⟩
 refine zb tok 6 ?_
 simp only [go_sem, qb, qe, qa, qd, encGPacket]
 refine za ?_
 simp only [ze, upd, qa, reduceIte, zl, zq]
 apply hK
 refine rc [2, 3, 4, 5] fun K hK => ?_
 obtain ⟨r2, hr2, h⟩ := bind_some h
 refine zb tok 2 ?_
 simp only [go_sem, qb, qe, qa, qd]
 refine zi rfl rfl rfl (zJ.ok (⟨[97], [(⟨[109], ([] : List GField), ([] : List Int)⟩ : GMessage)], ([] : List GEnumeration), [(⟨[99], [109], [109]⟩ : GMethod)]⟩ : GSchema) (⟨3, 0, 0, 0, 0, [99], 0, [4, 2, 2, 2]⟩ : GPacket) r2 hr2).ld ?_
 rintro _ _ ⟨rfl, rfl⟩
 refine zb tok 6 ?_
 simp only [go_sem, qb, qe, qa, qd, encGPacket]
 refine za ?_
 simp only [ze, upd, qa, reduceIte, zl, zq]
 apply hK
 refine rc [0] fun K hK => ?_
 refine zb tok 2 ?_
 simp only [go_sem, qb, qa]
 refine zo 2 (fun L τ => L = ([(2, .op 3 0 0), (4, .op 4 0 0), (26, .bool (r1.2 && r2.2))] : List (Nat × AV)) ∧ τ = ([.cells 0 [.str [109], .ds true [] 0 true, .ds true [] 0 true], .cells 0 [.str [99], .str [109], .str [109]], .cells 0 [.str [97], .os true 3 0 0 0 1 true, .ds true [] 0 true, .os true 3 1 0 0 1 true], .cells 0 (encGPacket r1.1), .cells 0 (encGPacket r2.1)] : Store)) ?_ ?_
 · refine zQ (b := r1.2) 24 rfl (fun hg24 => ?_) (fun hg24 => ?_)
   · refine zb tok 2 ?_
     simp only [go_sem, qb, qa]
     refine za ⟨rfl, _, _, ⟨rfl, rfl⟩, .b hg24⟩
   refine zb tok 2 ?_
   simp only [go_sem, qb, qa]
   refine za ⟨rfl, _, _, ⟨rfl, rfl⟩, .b hg24⟩
 rintro _ _ ⟨rfl, rfl⟩
 refine zb tok 1 ?_
 simp only [go_sem, qb, qa]
 refine zo 4 (fun L τ => L = ([(4, .op 4 0 0), (31, .bool ((r1.2 && r2.2) && (decide (r1.1.fBody = [1]))))] : List (Nat × AV)) ∧ τ = ([.cells 0 [.str [109], .ds true [] 0 true, .ds true [] 0 true], .cells 0 [.str [99], .str [109], .str [109]], .cells 0 [.str [97], .os true 3 0 0 0 1 true, .ds true [] 0 true, .os true 3 1 0 0 1 true], .cells 0 (encGPacket r1.1), .cells 0 (encGPacket r2.1)] : Store)) ?_ ?_
 · refine zQ (b := (r1.2 && r2.2)) 27 rfl (fun hg27 => ?_) (fun hg27 => ?_)
   · refine zb tok 4 ?_
     simp only [go_sem, qb, qa, qd]
     refine za ⟨rfl, _, _, ⟨rfl, rfl⟩, .b hg27⟩
   refine zb tok 4 ?_
   simp only [go_sem, qb, qa]
   refine za ⟨rfl, _, _, ⟨rfl, rfl⟩, .b hg27⟩
 rintro _ _ ⟨rfl, rfl⟩
 refine zb tok 1 ?_
 simp only [go_sem, qb, qa]
 refine zo 4 (fun L τ => L = ([(36, .bool (((r1.2 && r2.2) && (decide (r1.1.fBody = [1]))) && (decide (r2.1.fBody = [2, 2, 4, 2]))))] : List (Nat × AV)) ∧ τ = ([.cells 0 [.str [109], .ds true [] 0 true, .ds true [] 0 true], .cells 0 [.str [99], .str [109], .str [109]], .cells 0 [.str [97], .os true 3 0 0 0 1 true, .ds true [] 0 true, .os true 3 1 0 0 1 true], .cells 0 (encGPacket r1.1), .cells 0 (encGPacket r2.1)] : Store)) ?_ ?_
 · refine zQ (b := ((r1.2 && r2.2) && (decide (r1.1.fBody = [1])))) 32 rfl (fun hg32 => ?_) (fun hg32 => ?_)
   · refine zb tok 4 ?_
     simp only [go_sem, qb, qa, qd]
     refine za ⟨rfl, _, _, ⟨rfl, rfl⟩, .b hg32⟩
   refine zb tok 4 ?_
   simp only [go_sem, qb, qa]
   refine za ⟨rfl, _, _, ⟨rfl, rfl⟩, .b hg32⟩
 rintro _ _ ⟨rfl, rfl⟩
 refine zb tok 1 ?_
 simp only [go_sem, qb]
 refine za ?_
 simp only [ze, upd, qa, reduceIte, zl, zq]
 apply hK
 refine zj ?_
 obtain rfl := Option.some.inj h
 exact yr
theorem xg.ev  (r : Bool) (h : xg = some r) (σ : Store) : ACalls qh 24 [] σ (fun r' σ' => r' = .bool r ∧ σ' = σ) :=
 (xg.ok  r h).c σ
def xO (a0 : List Int) : Option (List Int) :=
 (YN (qc a0) 8).bind fun _u2 => some a0
theorem xO.own (a0 : List Int) (r : List Int) (h : xO a0 = some r) : ACalls qh 46 [.ds true (qg encI a0) (qc a0) false] [] (fun r' σ' => r' = .os true 1 0 0 0 (qc r) false ∧ σ' = [.cells 0 (qg encI r)]) := by
 refine ACalls.own0 (by simp only [push_cast]) ?_
 refine Y6 (rs := [.tmp 2]) tok Tryd.func46 rfl Tryd.ntmps46 rfl Tryd.call46 (by simp) ?_
 refine zt [(0, .ds true (qg encI a0) (qc a0) false)] ⟨rfl, trivial⟩ ?_
 unfold xO at h
 refine rg tok [0] fun K hK => ?_
 simp only [go_sem, qb, reduceCtorEq]
 apply hK
 have f1 := fun nl tt σ => xP E24.len a0 nl tt σ
 obtain ⟨_u2, hu2, h⟩ := bind_some h
 have gu2 := yy hu2
 refine rg tok [2] fun K hK => ?_
 simp only [go_sem, qb, qa, reduceCtorEq, yn, zY, yq, true_and, f1, gu2, ZG, qA, qn, qt]
 apply hK
 refine yc (L := [(2, .os true 1 0 0 0 (qc a0) false)]) (τ := [.cells 0 (qg encI a0)]) .s ?_
 refine zj ?_
 obtain rfl := Option.some.inj h
 simp only [ZF, xd, xl, xY, exists_eq_left', go_sem]
 refine ⟨0, 0, by simp, ?_, ?_⟩
 · first | rfl | (simp only [go_sem, qb, qe, qa, qd, qw, qL, reduceIte, reduceCtorEq, push_cast, if_true, qJ, qt, qM, qy, qR, qW, ub, q2, ud, qX, qI, yj] <;> rfl)
 first | rfl | (simp only [go_sem, push_cast, qy, yj] <;> rfl)
theorem xO.ok (a0 : List Int) (r : List Int) (h : xO a0 = some r) : ACalls qh 46 [.ds true (qg encI a0) (qc a0) false] [] (fun r' _ => r' = .ds true (qg encI r) (qc r) false) :=
 (xO.own a0 r h).ownData (zK E24.len r) (by simp only [push_cast])
theorem xO.ev (a0 : List Int) (r : List Int) (h : xO a0 = some r) (σ : Store) : ACalls qh 46 [.ds true (qg encI a0) (qc a0) false] σ (fun r' σ' => r' = .ds true (qg encI r) (qc r) false ∧ σ' = σ) :=
 (xO.ok a0 r h).c σ
def zV.l19 (a0 : GSchema) (l4 : List GMessage) : List GEnumeration → Int → List GEnumeration → Option GSchema
 | [], x15, l13 => some (⟨a0.fName, l4, l13, a0.fMethods⟩ : GSchema)
 | y19 :: q19, x15, l13 => (YN (qc y19.fValues) 24).bind fun _u28 => (YN (qc l13 + 1) 40).bind fun _u29 => ((zV.l19 a0 l4 q19) (x15 + 1) (l13 ++ [(⟨y19.fName, y19.fValues⟩ : GEnumeration)]))
def zV.l10 (a0 : GSchema) : List GMessage → Int → List GMessage → Option GSchema
 | [], x6, l4 => (zV.l19 a0 l4 a0.fEnums 0 ([] : List GEnumeration))
 | y10 :: q10, x6, l4 => (YN (qc y10.fFields) 56).bind fun _u36 => (xO y10.fReserved).bind fun r37 => (YN (qc l4 + 1) 64).bind fun _u38 => ((zV.l10 a0 q10) (x6 + 1) (l4 ++ [(⟨y10.fName, y10.fFields, r37⟩ : GMessage)]))
def zV (a0 : GSchema) : Option GSchema :=
 (YN (qc a0.fMethods) 48).bind fun _u2 => (zV.l10 a0 a0.fMessages 0 ([] : List GMessage))
theorem zV.ok (a0 : GSchema) (r : GSchema) (h : zV a0 = some r) : ACalls qh 26 [.agg (encGSchema a0)] [] (fun r' _ => r' = .agg (encGSchema r)) := by
 refine zn (rs := [.cell 2 31]) tok Tryd.func26 rfl Tryd.ntmps26 rfl Tryd.call26 (by simp) ?_
 refine zt [(0, .agg (encGSchema a0))] ⟨rfl, trivial⟩ ?_
 unfold zV at h
 refine rg tok [1, 2] fun K hK => ?_
 simp only [go_sem, qb, qa, qd, reduceCtorEq, encGSchema]
 apply hK
 have f1 := fun nl tt σ => xP E29.len a0.fMethods nl tt σ
 obtain ⟨_u2, hu2, h⟩ := bind_some h
 have gu2 := yy hu2
 refine rd [1, 2, 3] fun K hK => ?_
 refine DW.start (T := tab) [.any, .own 2 [], .any, .at [], .eff, .any, .flt, .eff] [(2, [])] ?_
 refine DW.runN tok 8 ?_
 simp only [go_sem, qb, qe, qa, qd, yn, zY, yq, true_and, encGSchema, f1, gu2, ZG, uf, qZ, AV.one, qS, qA, qk, qn, qt, qC]
 refine DW.fin tok (by decide +kernel) rfl ?_
 simp only [ze, upd, qa, reduceIte, zl, zq]
 apply hK
 refine ZC 3 1 3 rfl (by simp) rfl (L := [(1, .op 0 0 0), (2, .op 1 0 0), (3, .op 3 0 0)]) (τ := [.cells 0 (encGSchema a0), .cells 0 [.str [], .ds true [] 0 true, .ds true [] 0 true, .ds true [] 0 true], .cells 0 (qg encGMethod a0.fMethods), .cells 0 [.str a0.fName, .os true 3 4 0 0 (qc ([] : List GMessage)) false, .ds true [] 0 true, .os true 3 2 0 0 (qc a0.fMethods) false], .cells 0 (qg encGMessage ([] : List GMessage))]) .s ?_
 refine ZC 3 2 2 rfl (by simp) rfl (L := [(1, .op 0 0 0), (2, .op 1 0 0), (3, .op 3 0 0)]) (τ := [.cells 0 (encGSchema a0), .cells 0 [.str [], .ds true [] 0 true, .ds true [] 0 true, .ds true [] 0 true], .cells 0 (qg encGMethod a0.fMethods), .cells 0 [.str a0.fName, .os true 3 4 0 0 (qc ([] : List GMessage)) false, .os true 2 5 0 0 (qc ([] : List GEnumeration)) false, .os true 3 2 0 0 (qc a0.fMethods) false], .cells 0 (qg encGMessage ([] : List GMessage)), .cells 0 (qg encGEnumeration ([] : List GEnumeration))]) .s ?_
 refine yc (L := [(1, .op 0 0 0), (2, .op 1 0 0), (3, .op 3 0 0)]) (τ := [.cells 0 (encGSchema a0), .cells 0 [.str [], .ds true [] 0 true, .ds true [] 0 true, .ds true [] 0 true], .cells 0 (qg encGMethod a0.fMethods), .cells 0 [.str a0.fName, .os true 3 4 0 0 (qc ([] : List GMessage)) false, .os true 2 5 0 0 (qc ([] : List GEnumeration)) false, .os true 3 2 0 0 (qc a0.fMethods) false], .cells 0 (qg encGMessage ([] : List GMessage)), .cells 0 (qg encGEnumeration ([] : List GEnumeration))]) .s ?_
 refine zd fun Z3 hZ3 => ?_
 refine rg tok [1, 2, 3, 4] fun K hK => ?_
 simp only [go_sem, qb, qa]
 apply hK
 refine zk ?_
 refine xJ 0 rfl fun hb10 => ?_
 replace hb10 : qc a0.fMessages ≤ 9223372036854775807 := hb10.2.1.1
 refine zF (fun m L τ => ∃ (p10 q10 : List GMessage) (x6 : Int) (l4 : List GMessage) (v5 : Nat), m = qc q10 ∧ L = ([(1, .op 0 0 0), (2, .op 1 0 0), (3, .op 3 0 0), (4, .int .i64 x6)] : List (Nat × AV)) ∧ τ = ([.cells 0 (encGSchema a0), .cells 0 [.str [], .ds true [] 0 true, .ds true [] 0 true, .ds true [] 0 true], .cells 0 (qg encGMethod a0.fMethods), .cells 0 [.str a0.fName, .os true 3 4 v5 0 (qc l4) false, .os true 2 5 0 0 (qc ([] : List GEnumeration)) false, .os true 3 2 0 0 (qc a0.fMethods) false], .cells v5 (qg encGMessage l4), .cells 0 (qg encGEnumeration ([] : List GEnumeration))] : Store) ∧ a0.fMessages = p10 ++ q10 ∧ x6 = (qc p10 : Int) ∧ zV.l10 a0 q10 x6 l4 = some r) _ ⟨[], a0.fMessages, 0, ([] : List GMessage), 0, rfl, rfl, rfl, rfl, rfl, h⟩ .s ?_
 rintro m L τ ⟨p10, q10, x6, l4, v5, rfl, rfl, rfl, hE10, hi10, h⟩
 rcases q10 with _ | ⟨y10, q10⟩
 · have hz10 := yz hE10 hi10
   simp only [zV.l10] at h
   refine zd fun Z11 hZ11 => ?_
   refine rg tok [1, 2, 3, 4, 17] fun K hK => ?_
   simp only [go_sem, qb, qa, qd, hz10]
   apply hK
   refine zz rfl ?_
   refine zM ?_
   apply hZ3
   refine zd fun Z12 hZ12 => ?_
   refine rg tok [1, 2, 3, 6] fun K hK => ?_
   simp only [go_sem, qb, qa]
   apply hK
   refine zk ?_
   refine xJ 0 rfl fun hb19 => ?_
   replace hb19 : qc a0.fEnums ≤ 9223372036854775807 := hb19.2.2.1.1
   refine zF (fun m L τ => ∃ (p19 q19 : List GEnumeration) (x15 : Int) (l13 : List GEnumeration) (v14 : Nat), m = qc q19 ∧ L = ([(1, .op 0 0 0), (2, .op 1 0 0), (3, .op 3 0 0), (6, .int .i64 x15)] : List (Nat × AV)) ∧ τ = ([.cells 0 (encGSchema a0), .cells 0 [.str [], .ds true [] 0 true, .ds true [] 0 true, .ds true [] 0 true], .cells 0 (qg encGMethod a0.fMethods), .cells 0 [.str a0.fName, .os true 3 4 v5 0 (qc l4) false, .os true 2 5 v14 0 (qc l13) false, .os true 3 2 0 0 (qc a0.fMethods) false], .cells v5 (qg encGMessage l4), .cells v14 (qg encGEnumeration l13)] : Store) ∧ a0.fEnums = p19 ++ q19 ∧ x15 = (qc p19 : Int) ∧ zV.l19 a0 l4 q19 x15 l13 = some r) _ ⟨[], a0.fEnums, 0, ([] : List GEnumeration), 0, rfl, rfl, rfl, rfl, rfl, h⟩ .s ?_
   rintro m L τ ⟨p19, q19, x15, l13, v14, rfl, rfl, rfl, hE19, hi19, h⟩
   rcases q19 with _ | ⟨y19, q19⟩
   · have hz19 := yz hE19 hi19
     simp only [zV.l19] at h
     refine zd fun Z20 hZ20 => ?_
     refine rg tok [1, 2, 3, 6, 43] fun K hK => ?_
     simp only [go_sem, qb, qa, qd, hz19]
     apply hK
     refine zz rfl ?_
     refine zM ?_
     apply hZ12
     refine rg tok [2] fun K hK => ?_
     simp only [go_sem, qb, qe, qa, qd]
     apply hK
     refine zj ?_
     obtain rfl := Option.some.inj h
     exact yr
   obtain ⟨hz19, hw19, hx19, hE'19, hi'19⟩ := yg hE19 hi19 hb19
   simp only [zV.l19] at h
   refine zd fun Z21 hZ21 => ?_
   refine rg tok [1, 2, 3, 6, 43] fun K hK => ?_
   simp only [go_sem, qb, qa, qd, hz19]
   apply hK
   refine zB rfl ?_
   refine zh ?_
   apply hZ21
   refine zd fun Z22 hZ22 => ?_
   refine zk ?_
   have f23 := E28.idxS hx19
   have f24 := E28.fldS0 (f := 9) rfl rfl hx19
   have f25 := E28.idxS hx19
   have f26 := E28.fldS (f := 88) rfl rfl hx19 (o := 1) (by decide)
   have f27 := fun nl tt σ => xP E88.len y19.fValues nl tt σ
   obtain ⟨_u28, hu28, h⟩ := bind_some h
   have gu28 := yy hu28
   obtain ⟨_u29, hu29, h⟩ := bind_some h
   have gu29 := yy hu29
   have f30 := (zK E28.len l13)
   refine rdE [1, 2, 3, 6] fun K hK => ?_
   refine DW.start (T := tab) [.any, .own 2 [], .any, .own 1 [], .any, .any, .any, .own 1 [], .any, .at [], .any, .any, .any, .at [], .eff, .any, .eff, .eff, .any, .eff] [(2, []), (1, [])] ?_
   refine DW.runN tok 8 ?_
   simp only [go_sem, qb, qa, qd, encGEnumeration, encGSchema, f23, f24, qk, qn, qt]
   refine DW.runN tok 8 ?_
   simp only [go_sem, qb, qe, qa, qd, yn, zY, yq, true_and, encGEnumeration, f23, f26, f27, gu28, ZG, uf, qZ, AV.one, qS, qA, qk, qn, qt, qC]
   refine DW.runN tok 4 ?_
   simp only [go_sem, qb, qe, qa, qd, qw, zR, z8, ug, qY, true_and, ul, yn, zY, yq, gu29, f30, uf, qZ, AV.one, qS, qA, qk, qn, qt, qC, yS]
   refine DW.fin tok (by decide +kernel) rfl ?_
   simp only [ze, upd, qa, reduceIte, zl, zq]
   apply hK
   apply hZ22
   refine rgE tok [1, 2, 3, 6] fun K hK => ?_
   simp only [go_sem, qb, qa, hw19]
   apply hK
   exact ⟨_, _, _, qu q19.length, ⟨p19 ++ [y19], q19, x15 + 1, l13 ++ [(⟨y19.fName, y19.fValues⟩ : GEnumeration)], v14 + 1, rfl, rfl, rfl, hE'19, hi'19, h⟩, (.t [0, 1, 2, 3, 4, 5] false)⟩
 obtain ⟨hz10, hw10, hx10, hE'10, hi'10⟩ := yg hE10 hi10 hb10
 simp only [zV.l10] at h
 refine zd fun Z31 hZ31 => ?_
 refine rg tok [1, 2, 3, 4, 17] fun K hK => ?_
 simp only [go_sem, qb, qa, qd, hz10]
 apply hK
 refine zB rfl ?_
 refine zh ?_
 apply hZ31
 refine zd fun Z32 hZ32 => ?_
 refine zk ?_
 have f33 := E27.idxS hx10
 have f34 := E27.loadS rfl rfl hx10
 refine rg tok [1, 2, 3, 4, 5] fun K hK => ?_
 simp only [go_sem, qb, qe, qa, qd, encGMessage, f33, f34]
 apply hK
 have f35 := fun nl tt σ => xP E23.len y10.fFields nl tt σ
 obtain ⟨_u36, hu36, h⟩ := bind_some h
 have gu36 := yy hu36
 obtain ⟨r37, hr37, h⟩ := bind_some h
 obtain ⟨_u38, hu38, h⟩ := bind_some h
 have gu38 := yy hu38
 have f39 := (zK E27.len l4)
 refine rdE [1, 2, 3, 4] fun K hK => ?_
 refine DW.start (T := tab) [.any, .own 3 [], .any, .own 2 [], .any, .at [], .eff, .any, .own 1 [], .eff, .any, .eff, .eff, .any, .eff] [(3, []), (2, []), (1, [])] ?_
 refine DW.runN tok 8 ?_
 simp only [go_sem, qb, qe, qa, qd, yn, zY, yq, true_and, encGSchema, f35, gu36, ZG, un, qA, qk, qn, qt, qC]
 refine DW.runN tok 1 ?_
 simp only [go_sem, qb, qa, qd, qk, qn, qt]
 refine DW.call rfl rfl rfl (xO.ev y10.fReserved r37 hr37 _) ?_
 refine DW.runN tok 5 ?_
 simp only [go_sem, qb, qe, qa, qd, qw, zR, z8, ug, qY, true_and, ul, yn, zY, yq, gu38, f39, uf, qZ, AV.one, qS, qA, qk, qn, qt, qC, yS]
 refine DW.fin tok (by decide +kernel) rfl ?_
 simp only [ze, upd, qa, reduceIte, zl, zq]
 apply hK
 apply hZ32
 refine rgE tok [1, 2, 3, 4] fun K hK => ?_
 simp only [go_sem, qb, qa, hw10]
 apply hK
 exact ⟨_, _, _, qu q10.length, ⟨p10 ++ [y10], q10, x6 + 1, l4 ++ [(⟨y10.fName, y10.fFields, r37⟩ : GMessage)], v5 + 1, rfl, rfl, rfl, hE'10, hi'10, h⟩, (.t [0, 1, 2, 3, 4, 5] false)⟩
theorem zV.ev (a0 : GSchema) (r : GSchema) (h : zV a0 = some r) (σ : Store) : ACalls qh 26 [.agg (encGSchema a0)] σ (fun r' σ' => r' = .agg (encGSchema r) ∧ σ' = σ) :=
 (zV.ok a0 r h).c σ
def law25_ProxyTwice (a0 : GSchema) (a1 : GPacket) : Option Bool :=
 (zD a0).bind fun r2 => (if (!r2) = true then some true else (yL a0).bind fun r3 => some (!(decide (r3 = 0)))).bind fun c3 => (if (c3 || (decide (5000 < (qc a1.fBody : Int)))) = true then (xg).bind fun r6 => some r6 else (zV a0).bind fun r7 => (zJ r7 a1).bind fun r8 => (if ((!(decide (a1.fKind = 3))) && (!(decide (a1.fKind = 4)))) = true then (if (r8.2 && (decide (r8.1.fKind = a1.fKind) && (decide (r8.1.fFrom = a1.fFrom) && (decide (r8.1.fTo = a1.fTo) && (decide (r8.1.fID = a1.fID) && (decide (r8.1.fVersion = a1.fVersion) && (decide (r8.1.fMethod = a1.fMethod) && (decide (r8.1.fErr = a1.fErr) && decide (r8.1.fBody = a1.fBody))))))))) = true then (xg).bind fun r13 => some r13 else some false).bind fun c13 => some c13 else (if (!r8.2) = true then (if (decide (r8.1.fKind = 0) && (decide (r8.1.fFrom = 0) && (decide (r8.1.fTo = 0) && (decide (r8.1.fID = 0) && (decide (r8.1.fVersion = 0) && (decide (r8.1.fMethod = []) && (decide (r8.1.fErr = 0) && decide (r8.1.fBody = [])))))))) = true then (xg).bind fun r17 => some r17 else some false).bind fun c17 => some c17 else (zV a0).bind fun r19 => (zJ r19 r8.1).bind fun r20 => (if ((r20.2 && (decide (r20.1.fKind = r8.1.fKind) && (decide (r20.1.fFrom = r8.1.fFrom) && (decide (r20.1.fTo = r8.1.fTo) && (decide (r20.1.fID = r8.1.fID) && (decide (r20.1.fVersion = r8.1.fVersion) && (decide (r20.1.fMethod = r8.1.fMethod) && (decide (r20.1.fErr = r8.1.fErr) && decide (r20.1.fBody = r8.1.fBody))))))))) && (decide ((qc r8.1.fBody : Int) ≤ (qc a1.fBody : Int)))) = true then (xg).bind fun r21 => some r21 else some false).bind fun c21 => some c21)))
theorem law25_ProxyTwice.ok (a0 : GSchema) (a1 : GPacket) (r : Bool) (h : law25_ProxyTwice a0 a1 = some r) : ACalls qh 6 [.agg (encGSchema a0), .agg (encGPacket a1)] [] (fun r' _ => r' = .bool r) := by
 refine zn (rs := [.tmp 4]) tok Tryd.func6 rfl Tryd.ntmps6 rfl Tryd.call6 (by simp) ?_
 refine zt [(0, .agg (encGSchema a0)), (1, .agg (encGPacket a1))] ⟨rfl, rfl, trivial⟩ ?_
 unfold law25_ProxyTwice at h
 refine rg tok [2, 3] fun K hK => ?_
 simp only [go_sem, qb, qa, qd, reduceCtorEq, encGPacket, encGSchema]
 apply hK
 refine zd fun Z1 hZ1 => ?_
 refine rc [2, 3, 22] fun K hK => ?_
 obtain ⟨r2, hr2, h⟩ := bind_some h
 refine zb tok 1 ?_
 simp only [go_sem, qb, qe, qa, qd]
 refine zi rfl rfl rfl (zD.ev a0 r2 hr2 _) ?_
 rintro _ _ ⟨rfl, rfl⟩
 refine zb tok 2 ?_
 simp only [go_sem, qb, qa]
 obtain ⟨c3, hc3, h⟩ := bind_some h
 refine zo 4 (fun L τ => L = ([(2, .op 0 0 0), (3, .op 1 0 0), (16, .bool c3)] : List (Nat × AV)) ∧ τ = ([.cells 0 (encGSchema a0), .cells 0 (encGPacket a1)] : Store)) ?_ ?_
 · refine zQ (b := (!r2)) 12 rfl (fun hg12 => ?_) (fun hg12 => ?_)
   · rw [if_pos hg12] at hc3
     refine zb tok 4 ?_
     simp only [go_sem, qb, qa]
     obtain rfl := Option.some.inj hc3
     refine za ⟨rfl, _, _, ⟨rfl, rfl⟩, .b hg12⟩
   rw [xD hg12] at hc3
   obtain ⟨r4, hr4, hc3⟩ := bind_some hc3
   refine zb tok 1 ?_
   simp only [go_sem, qb, qe, qa, qd]
   refine zi rfl rfl rfl (yL.ev a0 r4 hr4 _) ?_
   rintro _ _ ⟨rfl, rfl⟩
   refine zb tok 2 ?_
   simp only [go_sem, qb, qa]
   obtain rfl := Option.some.inj hc3
   refine za ⟨rfl, _, _, ⟨rfl, rfl⟩, .b hg12⟩
 rintro _ _ ⟨rfl, rfl⟩
 refine zb tok 1 ?_
 simp only [go_sem, qb, qa]
 refine zo 5 (fun L τ => L = ([(2, .op 0 0 0), (3, .op 1 0 0), (22, .bool (c3 || (decide (5000 < (qc a1.fBody : Int)))))] : List (Nat × AV)) ∧ τ = ([.cells 0 (encGSchema a0), .cells 0 (encGPacket a1)] : Store)) ?_ ?_
 · refine zQ (b := c3) 17 rfl (fun hg17 => ?_) (fun hg17 => ?_)
   · refine zb tok 5 ?_
     simp only [go_sem, qb, qa]
     refine za ⟨rfl, _, _, ⟨rfl, rfl⟩, .b hg17⟩
   refine zb tok 5 ?_
   simp only [go_sem, qb, qa, qd]
   refine za ⟨rfl, _, _, ⟨rfl, rfl⟩, .b hg17⟩
 rintro _ _ ⟨rfl, rfl⟩
 refine za ?_
 simp only [ze, qa, reduceIte, zl, zq]
 apply hK
 refine zv (b := (c3 || (decide (5000 < (qc a1.fBody : Int))))) rfl (fun hc5 => ?_) (fun hc5 => ?_)
 · rw [if_pos hc5] at h
   refine rc [4] fun K hK => ?_
   obtain ⟨r6, hr6, h⟩ := bind_some h
   refine zi rfl rfl rfl (xg.ev  r6 hr6 _) ?_
   rintro _ _ ⟨rfl, rfl⟩
   refine zb tok 1 ?_
   simp only [go_sem, qb, qa]
   refine za ?_
   simp only [ze, upd, qa, reduceIte, zl, zq]
   apply hK
   refine zj ?_
   obtain rfl := Option.some.inj h
   exact yr
 rw [xD hc5] at h
 refine zh ?_
 apply hZ1
 obtain ⟨r7, hr7, h⟩ := bind_some h
 obtain ⟨r8, hr8, h⟩ := bind_some h
 refine rd [2, 3, 5, 6] fun K hK => ?_
 refine DW.start (T := tab) [.at [], .eff, .own 1 [], .eff, .any, .any, .any, .flt, .eff, .any] [(1, [])] ?_
 refine DW.runN tok 1 ?_
 simp only [go_sem, qb, qe, qa, qd]
 refine DW.call rfl rfl rfl (zV.ev a0 r7 hr7 _) ?_
 refine DW.runN tok 1 ?_
 simp only [go_sem, qb, qe, qa, qd, encGSchema]
 refine DW.call rfl rfl rfl (zJ.ev r7 a1 r8 hr8 _) ?_
 refine DW.runN tok 6 ?_
 simp only [go_sem, qb, qe, qa, qd, encGPacket]
 refine DW.fin tok (by decide +kernel) rfl ?_
 simp only [ze, upd, qa, reduceIte, zl, zq]
 apply hK
 refine zd fun Z9 hZ9 => ?_
 refine rc [2, 3, 5, 6, 38] fun K hK => ?_
 refine zb tok 4 ?_
 simp only [go_sem, qb, qa, qd]
 refine zo 4 (fun L τ => L = ([(2, .op 0 0 0), (3, .op 1 0 0), (5, .op 2 0 0), (6, .bool r8.2), (38, .bool ((!(decide (a1.fKind = 3))) && (!(decide (a1.fKind = 4)))))] : List (Nat × AV)) ∧ τ = ([.cells 0 (encGSchema a0), .cells 0 (encGPacket a1), .cells 0 (encGPacket r8.1)] : Store)) ?_ ?_
 · refine yN 34 rfl (fun hg34 => ?_) (fun hg34 => ?_)
   · have t10 := eq_false hg34
     refine zb tok 4 ?_
     simp only [go_sem, qb, qa, qd]
     refine za ⟨rfl, _, _, ⟨rfl, rfl⟩, .p t10⟩
   have t11 := eq_true hg34
   refine zb tok 4 ?_
   simp only [go_sem, qb, qa]
   refine za ⟨rfl, _, _, ⟨rfl, rfl⟩, .p t11⟩
 rintro _ _ ⟨rfl, rfl⟩
 refine za ?_
 simp only [ze, qa, reduceIte, zl, zq]
 apply hK
 refine zv (b := ((!(decide (a1.fKind = 3))) && (!(decide (a1.fKind = 4))))) rfl (fun hc12 => ?_) (fun hc12 => ?_)
 · rw [if_pos hc12] at h
   refine rc [4] fun K hK => ?_
   refine zb tok 2 ?_
   simp only [go_sem, qb, qa]
   refine zo 4 (fun L τ => L = ([(44, .bool (r8.2 && (decide (r8.1.fKind = a1.fKind) && (decide (r8.1.fFrom = a1.fFrom) && (decide (r8.1.fTo = a1.fTo) && (decide (r8.1.fID = a1.fID) && (decide (r8.1.fVersion = a1.fVersion) && (decide (r8.1.fMethod = a1.fMethod) && (decide (r8.1.fErr = a1.fErr) && decide (r8.1.fBody = a1.fBody))))))))))] : List (Nat × AV)) ∧ τ = ([.cells 0 (encGSchema a0), .cells 0 (encGPacket a1), .cells 0 (encGPacket r8.1)] : Store)) ?_ ?_
   · refine zQ (b := r8.2) 40 rfl (fun hg40 => ?_) (fun hg40 => ?_)
     · refine zb tok 4 ?_
       simp only [go_sem, qb, qe, qa, qd, evEqA, ceqL, ceq]
       refine za ⟨rfl, _, _, ⟨rfl, rfl⟩, .b hg40⟩
     refine zb tok 4 ?_
     simp only [go_sem, qb, qa]
     refine za ⟨rfl, _, _, ⟨rfl, rfl⟩, .b hg40⟩
   rintro _ _ ⟨rfl, rfl⟩
   refine zb tok 1 ?_
   simp only [go_sem, qb]
   obtain ⟨c13, hc13, h⟩ := bind_some h
   refine zo 2 (fun L τ => L = ([(47, .bool c13)] : List (Nat × AV)) ∧ τ = ([.cells 0 (encGSchema a0), .cells 0 (encGPacket a1), .cells 0 (encGPacket r8.1)] : Store)) ?_ ?_
   · refine zQ (b := (r8.2 && (decide (r8.1.fKind = a1.fKind) && (decide (r8.1.fFrom = a1.fFrom) && (decide (r8.1.fTo = a1.fTo) && (decide (r8.1.fID = a1.fID) && (decide (r8.1.fVersion = a1.fVersion) && (decide (r8.1.fMethod = a1.fMethod) && (decide (r8.1.fErr = a1.fErr) && decide (r8.1.fBody = a1.fBody)))))))))) 45 rfl (fun hg45 => ?_) (fun hg45 => ?_)
     · rw [if_pos hg45] at hc13
       obtain ⟨r14, hr14, hc13⟩ := bind_some hc13
       refine zi rfl rfl rfl (xg.ev  r14 hr14 _) ?_
       rintro _ _ ⟨rfl, rfl⟩
       refine zb tok 1 ?_
       simp only [go_sem, qb, qa]
       obtain rfl := Option.some.inj hc13
       refine za ⟨rfl, _, _, ⟨rfl, rfl⟩, .b hg45⟩
     rw [xD hg45] at hc13
     refine zb tok 2 ?_
     simp only [go_sem, qb, qa]
     obtain rfl := Option.some.inj hc13
     refine za ⟨rfl, _, _, ⟨rfl, rfl⟩, .b hg45⟩
   rintro _ _ ⟨rfl, rfl⟩
   refine zb tok 1 ?_
   simp only [go_sem, qb]
   refine za ?_
   simp only [ze, upd, qa, reduceIte, zl, zq]
   apply hK
   refine zj ?_
   obtain rfl := Option.some.inj h
   exact yr
 rw [xD hc12] at h
 refine zh ?_
 apply hZ9
 refine zd fun Z15 hZ15 => ?_
 refine rg tok [2, 3, 5, 49] fun K hK => ?_
 simp only [go_sem, qb, qa]
 apply hK
 refine zv (b := (!r8.2)) rfl (fun hc16 => ?_) (fun hc16 => ?_)
 · rw [if_pos hc16] at h
   refine rc [4] fun K hK => ?_
   refine zb tok 4 ?_
   simp only [go_sem, qb, qe, qa, qd, evEqA, ceqL, ceq]
   obtain ⟨c17, hc17, h⟩ := bind_some h
   refine zo 2 (fun L τ => L = ([(55, .bool c17)] : List (Nat × AV)) ∧ τ = ([.cells 0 (encGSchema a0), .cells 0 (encGPacket a1), .cells 0 (encGPacket r8.1)] : Store)) ?_ ?_
   · refine zQ (b := (decide (r8.1.fKind = 0) && (decide (r8.1.fFrom = 0) && (decide (r8.1.fTo = 0) && (decide (r8.1.fID = 0) && (decide (r8.1.fVersion = 0) && (decide (r8.1.fMethod = []) && (decide (r8.1.fErr = 0) && decide (r8.1.fBody = []))))))))) 53 rfl (fun hg53 => ?_) (fun hg53 => ?_)
     · rw [if_pos hg53] at hc17
       obtain ⟨r18, hr18, hc17⟩ := bind_some hc17
       refine zi rfl rfl rfl (xg.ev  r18 hr18 _) ?_
       rintro _ _ ⟨rfl, rfl⟩
       refine zb tok 1 ?_
       simp only [go_sem, qb, qa]
       obtain rfl := Option.some.inj hc17
       refine za ⟨rfl, _, _, ⟨rfl, rfl⟩, .b hg53⟩
     rw [xD hg53] at hc17
     refine zb tok 2 ?_
     simp only [go_sem, qb, qa]
     obtain rfl := Option.some.inj hc17
     refine za ⟨rfl, _, _, ⟨rfl, rfl⟩, .b hg53⟩
   rintro _ _ ⟨rfl, rfl⟩
   refine zb tok 1 ?_
   simp only [go_sem, qb]
   refine za ?_
   simp only [ze, upd, qa, reduceIte, zl, zq]
   apply hK
   refine zj ?_
   obtain rfl := Option.some.inj h
   exact yr
 rw [xD hc16] at h
 refine zh ?_
 apply hZ15
 obtain ⟨r19, hr19, h⟩ := bind_some h
 obtain ⟨r20, hr20, h⟩ := bind_some h
 refine rd [3, 5, 7, 8] fun K hK => ?_
 refine DW.start (T := tab) [.at [], .eff, .own 1 [], .eff, .any, .any, .any, .flt, .eff, .any] [(1, [])] ?_
 refine DW.runN tok 1 ?_
 simp only [go_sem, qb, qe, qa, qd]
 refine DW.call rfl rfl rfl (zV.ev a0 r19 hr19 _) ?_
 refine DW.runN tok 1 ?_
 simp only [go_sem, qb, qe, qa, qd, encGSchema]
 refine DW.call rfl rfl rfl (zJ.ev r19 r8.1 r20 hr20 _) ?_
 refine DW.runN tok 6 ?_
 simp only [go_sem, qb, qe, qa, qd, encGPacket]
 refine DW.fin tok (by decide +kernel) rfl ?_
 simp only [ze, upd, qa, reduceIte, zl, zq]
 apply hK
 refine rc [4] fun K hK => ?_
 refine zb tok 2 ?_
 simp only [go_sem, qb, qa]
 refine zo 4 (fun L τ => L = ([(3, .op 1 0 0), (5, .op 2 0 0), (68, .bool (r20.2 && (decide (r20.1.fKind = r8.1.fKind) && (decide (r20.1.fFrom = r8.1.fFrom) && (decide (r20.1.fTo = r8.1.fTo) && (decide (r20.1.fID = r8.1.fID) && (decide (r20.1.fVersion = r8.1.fVersion) && (decide (r20.1.fMethod = r8.1.fMethod) && (decide (r20.1.fErr = r8.1.fErr) && decide (r20.1.fBody = r8.1.fBody))))))))))] : List (Nat × AV)) ∧ τ = ([.cells 0 (encGSchema a0), .cells 0 (encGPacket a1), .cells 0 (encGPacket r8.1), .cells 0 (encGPacket r20.1)] : Store)) ?_ ?_
 · refine zQ (b := r20.2) 64 rfl (fun hg64 => ?_) (fun hg64 => ?_)
   · refine zb tok 4 ?_
     simp only [go_sem, qb, qe, qa, qd, evEqA, ceqL, ceq]
     refine za ⟨rfl, _, _, ⟨rfl, rfl⟩, .b hg64⟩
   refine zb tok 4 ?_
   simp only [go_sem, qb, qa]
   refine za ⟨rfl, _, _, ⟨rfl, rfl⟩, .b hg64⟩
 rintro _ _ ⟨rfl, rfl⟩
 refine zb tok 1 ?_
 simp only [go_sem, qb, qa]
 refine zo 8 (fun L τ => L = ([(77, .bool ((r20.2 && (decide (r20.1.fKind = r8.1.fKind) && (decide (r20.1.fFrom = r8.1.fFrom) && (decide (r20.1.fTo = r8.1.fTo) && (decide (r20.1.fID = r8.1.fID) && (decide (r20.1.fVersion = r8.1.fVersion) && (decide (r20.1.fMethod = r8.1.fMethod) && (decide (r20.1.fErr = r8.1.fErr) && decide (r20.1.fBody = r8.1.fBody))))))))) && (decide ((qc r8.1.fBody : Int) ≤ (qc a1.fBody : Int)))))] : List (Nat × AV)) ∧ τ = ([.cells 0 (encGSchema a0), .cells 0 (encGPacket a1), .cells 0 (encGPacket r8.1), .cells 0 (encGPacket r20.1)] : Store)) ?_ ?_
 · refine zQ (b := (r20.2 && (decide (r20.1.fKind = r8.1.fKind) && (decide (r20.1.fFrom = r8.1.fFrom) && (decide (r20.1.fTo = r8.1.fTo) && (decide (r20.1.fID = r8.1.fID) && (decide (r20.1.fVersion = r8.1.fVersion) && (decide (r20.1.fMethod = r8.1.fMethod) && (decide (r20.1.fErr = r8.1.fErr) && decide (r20.1.fBody = r8.1.fBody)))))))))) 69 rfl (fun hg69 => ?_) (fun hg69 => ?_)
   · refine zb tok 8 ?_
     simp only [go_sem, qb, qa, qd]
     refine za ⟨rfl, _, _, ⟨rfl, rfl⟩, .b hg69⟩
   refine zb tok 8 ?_
   simp only [go_sem, qb, qa]
   refine za ⟨rfl, _, _, ⟨rfl, rfl⟩, .b hg69⟩
 rintro _ _ ⟨rfl, rfl⟩
 refine zb tok 1 ?_
 simp only [go_sem, qb]
 obtain ⟨c21, hc21, h⟩ := bind_some h
 refine zo 2 (fun L τ => L = ([(80, .bool c21)] : List (Nat × AV)) ∧ τ = ([.cells 0 (encGSchema a0), .cells 0 (encGPacket a1), .cells 0 (encGPacket r8.1), .cells 0 (encGPacket r20.1)] : Store)) ?_ ?_
 · refine zQ (b := ((r20.2 && (decide (r20.1.fKind = r8.1.fKind) && (decide (r20.1.fFrom = r8.1.fFrom) && (decide (r20.1.fTo = r8.1.fTo) && (decide (r20.1.fID = r8.1.fID) && (decide (r20.1.fVersion = r8.1.fVersion) && (decide (r20.1.fMethod = r8.1.fMethod) && (decide (r20.1.fErr = r8.1.fErr) && decide (r20.1.fBody = r8.1.fBody))))))))) && (decide ((qc r8.1.fBody : Int) ≤ (qc a1.fBody : Int))))) 78 rfl (fun hg78 => ?_) (fun hg78 => ?_)
   · rw [if_pos hg78] at hc21
     obtain ⟨r22, hr22, hc21⟩ := bind_some hc21
     refine zi rfl rfl rfl (xg.ev  r22 hr22 _) ?_
     rintro _ _ ⟨rfl, rfl⟩
     refine zb tok 1 ?_
     simp only [go_sem, qb, qa]
     obtain rfl := Option.some.inj hc21
     refine za ⟨rfl, _, _, ⟨rfl, rfl⟩, .b hg78⟩
   rw [xD hg78] at hc21
   refine zb tok 2 ?_
   simp only [go_sem, qb, qa]
   obtain rfl := Option.some.inj hc21
   refine za ⟨rfl, _, _, ⟨rfl, rfl⟩, .b hg78⟩
 rintro _ _ ⟨rfl, rfl⟩
 refine zb tok 1 ?_
 simp only [go_sem, qb]
 refine za ?_
 simp only [ze, upd, qa, reduceIte, zl, zq]
 apply hK
 refine zj ?_
 obtain rfl := Option.some.inj h
 exact yr
end
section
set_option maxRecDepth 4000
open AM
def vb (n : Nat) : List UInt8 := if h : n < 128 then [q7 n] else q7 (n % 128 + 128) :: vb (n / 128)
termination_by n
decreasing_by omega
theorem vb_lt {n : Nat} (h : n < 128) : vb n = [q7 n] := by rw [vb, dif_pos h]
theorem vb_ge {n : Nat} (h : ¬ n < 128) : vb n = q7 (n % 128 + 128) :: vb (n / 128) := by rw [vb, dif_neg h]
theorem vb_pos (n : Nat) : 0 < (vb n).length := by
 by_cases h : n < 128
 · rw [vb_lt h]; exact Nat.one_pos
 rw [vb_ge h, qk]; omega
theorem vb_len : ∀ (k n : Nat), n < 2 ^ (7 * (k + 1)) → (vb n).length ≤ k + 1
 | 0, n, h => by rw [vb_lt (by simpa using h)]; exact qq _
 | k + 1, n, h => by
  by_cases h1 : n < 128
  · rw [vb_lt h1, qk, qn]; omega
  rw [vb_ge h1, qk]
  have := vb_len k (n / 128) (by
   have e : 2 ^ (7 * (k + 1 + 1)) = 128 * 2 ^ (7 * (k + 1)) := by rw [show 7 * (k + 1 + 1) = 7 + 7 * (k + 1) by omega, Nat.pow_add]
   rw [e] at h
   exact Nat.div_lt_of_lt_mul h)
  omega
theorem vb_len10 {n : Nat} (h : n < 2 ^ 64) : (vb n).length ≤ 10 := vb_len 9 n (ua h (by decide))
theorem YD {p : Prop} [Decidable p] (h : p) : grd p = some () := if_pos h
theorem xG {n b : Nat} (h : n * b ≤ 140737488355328) : YN n b = some () := if_pos h
theorem u64w {n : Nat} (h : n < 2 ^ 64) : IntKind.u64.wrap (n : Int) = (n : Int) := by rw [IntKind.wrap_u64]; omega
theorem u64i {x : Int} (h : 0 ≤ x) (h' : x < 18446744073709551616) : IntKind.u64.wrap x = x := by rw [IntKind.wrap_u64]; omega
theorem u8w (n : Nat) : IntKind.u8.wrap (n : Int) = ((n % 256 : Nat) : Int) := by
 simp only [IntKind.wrap, IntKind.bits, IntKind.signed, Bool.false_and]
 simp
theorem vad (n : Nat) (h : n < 256) : (q7 n).toNat = n := by
 rw [UInt8.toNat_ofNat']; omega
theorem or128 : ∀ m : Fin 256, (qv 8 ((m.val : Nat) : Int) ||| qv 8 128).toNat = m.val % 128 + 128 := by decide
theorem and127 : ∀ m : Fin 256, (qv 8 ((m.val : Nat) : Int) &&& ~~~(qv 8 128)).toNat = m.val % 128 := by decide
theorem moreByte (n : Nat) : q7 (qB (IntKind.u8.wrap ((uh (qv 8 (IntKind.u8.wrap (n : Int)) ||| qv 8 128) : Nat) : Int))) = q7 (n % 128 + 128) := by
 have h := or128 ⟨n % 256, Nat.mod_lt _ (by decide)⟩
 simp only at h
 rw [u8w n, h, u8w (n % 256 % 128 + 128), qN]
 congr 1
 have := Nat.mod_mod_of_dvd n (show 128 ∣ 256 by decide)
 omega
theorem lastByte (n : Nat) (h : n < 128) : q7 (qB (IntKind.u8.wrap (n : Int))) = q7 n := by
 rw [u8w, qN]; congr 1; omega
theorem shr7 (n : Nat) : Int.fdiv (n : Int) (2 ^ (min (qB 7) 64)) = ((n / 128 : Nat) : Int) := by
 rw [show ((2 : Int) ^ (min (qB 7) 64)) = 128 from by decide, Int.fdiv_eq_ediv_of_nonneg _ (by decide)]
 omega
theorem vint_Put_l : ∀ (k n : Nat) (l : List UInt8), n < 2 ^ (7 * k) → l.length + k ≤ 140737488355328 → yV.l9 k l (n : Int) = some (l ++ vb n) ∨ k = 0
 | 0, _, _, _, _ => Or.inr rfl
 | k + 1, n, l, h, hl => by
  left
  by_cases h1 : n < 128
  · rw [yV.l9, if_neg (by omega), xG (by omega), qf, lastByte n h1, vb_lt h1]
  rw [yV.l9, if_pos (by omega), xG (by omega), qf, moreByte, shr7, vb_ge h1]
  have hk : n / 128 < 2 ^ (7 * k) := by
   have e : 2 ^ (7 * (k + 1)) = 128 * 2 ^ (7 * k) := by rw [show 7 * (k + 1) = 7 + 7 * k by omega, Nat.pow_add]
   rw [e] at h; exact Nat.div_lt_of_lt_mul h
  rcases vint_Put_l k (n / 128) (l ++ [q7 (n % 128 + 128)]) hk (by rw [qi, qG]; omega) with e | e
  · rw [e, qr]; rfl
  exfalso; subst e; simp at hk; omega
theorem vint_Put_m : ∀ (k j n : Nat) (l r : List UInt8), yV.l9 k l (n : Int) = some r → yV.l9 (k + j) l (n : Int) = some r
 | 0, _, _, _, _, h => by cases h
 | k + 1, j, n, l, r, h => by
  rw [Nat.succ_add_eq_add_succ, Nat.add_succ]
  by_cases h1 : (128 : Int) ≤ (n : Int)
  · rw [yV.l9, if_pos h1] at h ⊢
    cases hr : YN (qc l + 1) 1 with
    | none => rw [hr] at h; cases h
    | some u =>
     rw [hr, qf, shr7] at h
     rw [qf, shr7]; exact vint_Put_m k j _ _ _ h
  rw [yV.l9, if_neg h1] at h ⊢; exact h
theorem Xg (a : List UInt8) {n : Nat} (h : n < 2 ^ 64) (ha : a.length ≤ 140737488355000) : yV a (n : Int) = some (a ++ vb n) := by
 by_cases h1 : n < 128
 · rw [yV, if_neg (by omega), xG (by omega), qf, lastByte n h1, vb_lt h1]
 rw [yV, if_pos (by omega), xG (by omega), qf, moreByte, shr7, vb_ge h1]
 rcases vint_Put_l 10 (n / 128) (a ++ [q7 (n % 128 + 128)]) (by omega) (by rw [qi, qG]; omega) with e | e
 · have := vint_Put_m 10 999999999999999999990 _ _ _ e
   rw [show 10 + 999999999999999999990 = rounds from rfl] at this
   rw [this, qr]; rfl
 cases e
theorem orAdd {i acc d : Nat} (h : acc < 2 ^ i) : acc ||| d * 2 ^ i = acc + d * 2 ^ i := by
 rw [Nat.or_comm, Nat.mul_comm, ← Nat.two_pow_add_eq_or_of_lt h]; omega
theorem bv64 {n : Nat} (h : n < 2 ^ 64) : (qv 64 (n : Int)).toNat = n := by
 rw [BitVec.ofInt_natCast, BitVec.toNat_ofNat]; exact Nat.mod_eq_of_lt h
theorem stepv {acc i : Nat} {y : UInt8} (hi : i ≤ 9) (ha : acc < 2 ^ (7 * i)) (h9 : i = 9 → y.toNat ≤ 1) : IntKind.u64.wrap ((uh (qv 64 (acc : Int) ||| qv 64 (IntKind.u64.wrap ((IntKind.u64.wrap (IntKind.u8.wrap ((uh (qv 8 (y.toNat : Int) &&& ~~~(qv 8 128)) : Nat) : Int))) * 2 ^ (min (qB (IntKind.i64.wrap (7 * (i : Int)))) 64)))) : Nat) : Int) = ((acc + (y.toNat % 128) * 2 ^ (7 * i) : Nat) : Int) ∧ acc + (y.toNat % 128) * 2 ^ (7 * i) < 2 ^ 64 ∧ (i < 9 → acc + (y.toNat % 128) * 2 ^ (7 * i) < 2 ^ (7 * (i + 1))) := by
 have hy : y.toNat < 256 := y.toNat_lt
 have h := and127 ⟨y.toNat, hy⟩
 simp only at h
 have e : IntKind.i64.wrap (7 * (i : Int)) = ((7 * i : Nat) : Int) := by rw [yF (by omega) (by omega)]; omega
 have hm : min (7 * i) 64 = 7 * i := by omega
 have hd : y.toNat % 128 < 128 := Nat.mod_lt _ (by decide)
 have hp : 2 ^ (7 * (i + 1)) = 128 * 2 ^ (7 * i) := by rw [show 7 * (i + 1) = 7 + 7 * i by omega, Nat.pow_add]
 have hs : i < 9 → acc + (y.toNat % 128) * 2 ^ (7 * i) < 2 ^ (7 * (i + 1)) := by
  intro _
  rw [hp]
  have : (y.toNat % 128) * 2 ^ (7 * i) ≤ 127 * 2 ^ (7 * i) := qQ _ (by omega)
  omega
 have hb : acc + (y.toNat % 128) * 2 ^ (7 * i) < 2 ^ 64 := by
  by_cases h8 : i < 9
  · have := hs h8
    have h2 : 2 ^ (7 * (i + 1)) ≤ 2 ^ 63 := Nat.pow_le_pow_right (by decide) (by omega)
    omega
  have hi9 : i = 9 := by omega
  have h1 := h9 hi9
  subst hi9
  have : y.toNat % 128 ≤ 1 := by omega
  have h2 : (y.toNat % 128) * 2 ^ (7 * 9) ≤ 1 * 2 ^ (7 * 9) := qQ _ this
  omega
 refine ⟨?_, hb, hs⟩
 rw [h, u8w, Nat.mod_eq_of_lt (show y.toNat % 128 < 256 by omega), e, qN, hm]
 have hc : ((((y.toNat % 128 : Nat) : Int)) * 2 ^ (7 * i)) = (((y.toNat % 128) * 2 ^ (7 * i) : Nat) : Int) := by
  rw [Int.natCast_mul, Int.natCast_pow]; rfl
 have hu : IntKind.u64.wrap ((y.toNat % 128 : Nat) : Int) = ((y.toNat % 128 : Nat) : Int) := u64w (by omega)
 rw [hu, hc, u64w (n := y.toNat % 128 * 2 ^ (7 * i)) (by omega), BitVec.toNat_or, bv64 (by omega), bv64 (by omega), orAdd ha, u64w hb]
theorem vaK (a : Nat) (hA : a ≤ 4611686018427387904) : ∀ (q post : List UInt8) (v i acc : Nat), q = vb v ++ post → i ≤ 9 → acc < 2 ^ (7 * i) → v * 2 ^ (7 * i) < 2 ^ 64 → (0 < i → v ≠ 0) →
 xe.l12 (a : Int) q (i : Int) (acc : Int) = some (((acc + v * 2 ^ (7 * i) : Nat) : Int), ((a + i + (vb v).length : Nat) : Int), 0)
 | [], post, v, i, acc, h, _, _, _, _ => by
  have := vb_pos v
  have h2 := congrArg qc h
  rw [qi, qn] at h2; omega
 | y :: q, post, v, i, acc, h, hi, ha, hv, h0 => by
  by_cases h1 : v < 128
  · rw [vb_lt h1] at h ⊢
    obtain ⟨rfl, rfl⟩ : y = q7 v ∧ q = post := by injection h with h2 h3; exact ⟨h2, h3⟩
    have hy : (q7 v).toNat = v := vad v (by omega)
    have h9 : i = 9 → v ≤ 1 := by
     intro e; subst e
     apply Nat.le_of_not_lt; intro hc
     have : 2 * 2 ^ (7 * 9) ≤ v * 2 ^ (7 * 9) := qQ _ hc
     omega
    have st := (stepv (y := q7 v) hi ha (by rw [hy]; exact h9)).1
    have hw1 : IntKind.i64.wrap (7 * (i : Int)) = 7 * (i : Int) := yF (by omega) (by omega)
    rw [xe.l12, st, hy]
    rw [if_neg (by simp only [ql, decide_eq_true_eq, not_and]; intro e; have := h9 (by omega); omega), YD (by rw [yF (by omega) (by omega)]; omega), qf, if_neg (by omega), if_neg (by simp only [ql, decide_eq_true_eq, not_and]; intro e e2; exact h0 (by omega) (by omega))]
    rw [Nat.mod_eq_of_lt h1, yF (x := (a : Int) + (i : Int)) (by omega) (by omega), yF (x := (a : Int) + (i : Int) + 1) (by omega) (by omega), qG]
    simp only [Int.natCast_add, Int.natCast_one]
  rw [vb_ge h1] at h ⊢
  obtain ⟨rfl, rfl⟩ : y = q7 (v % 128 + 128) ∧ q = vb (v / 128) ++ post := by injection h with h2 h3; exact ⟨h2, h3⟩
  have hy : (q7 (v % 128 + 128)).toNat = v % 128 + 128 := vad _ (by omega)
  have hi8 : i < 9 := by
   apply Nat.lt_of_not_le; intro hc
   have : i = 9 := by omega
   subst this
   have : 128 * 2 ^ (7 * 9) ≤ v * 2 ^ (7 * 9) := qQ _ (by omega)
   omega
  obtain ⟨st, sb, sn⟩ := stepv (y := q7 (v % 128 + 128)) hi ha (by intro e; omega)
  rw [xe.l12, st, hy, if_neg (by simp only [ql, decide_eq_true_eq, not_and]; intro e; omega), YD (by rw [yF (by omega) (by omega)]; omega), qf, if_pos (by omega)]
  rw [hy] at sn
  have hm : (v % 128 + 128) % 128 = v % 128 := by omega
  rw [hm] at sn ⊢
  have hp : 2 ^ (7 * (i + 1)) = 128 * 2 ^ (7 * i) := by rw [show 7 * (i + 1) = 7 + 7 * i by omega, Nat.pow_add]
  have hvd : v = 128 * (v / 128) + v % 128 := (Nat.div_add_mod v 128).symm
  have hmul : v * 2 ^ (7 * i) = (v / 128) * 2 ^ (7 * (i + 1)) + (v % 128) * 2 ^ (7 * i) := by
   rw [hp]
   calc v * 2 ^ (7 * i) = (128 * (v / 128) + v % 128) * 2 ^ (7 * i) := by rw [← hvd]
    _ = _ := by rw [uR, Nat.mul_comm 128, Nat.mul_assoc]
  have ih := vaK a hA (vb (v / 128) ++ post) post (v / 128) (i + 1) (acc + v % 128 * 2 ^ (7 * i)) rfl (by omega) (sn hi8) (by rw [hmul] at hv; omega) (by intro _; omega)
  rw [show ((i : Int) + 1) = ((i + 1 : Nat) : Int) by omega, ih, hmul, qk]
  congr 2
  · congr 1; omega
  congr 2; omega
theorem vaJ (a : Nat) (hA : a ≤ 4611686018427387904) : ∀ (q : List UInt8) (i acc : Nat), i + q.length ≤ 10 → acc < 2 ^ (7 * i) → ∃ r, xe.l12 (a : Int) q (i : Int) (acc : Int) = some r ∧
 (r.2.2 = 0 → ∃ v post, q = vb v ++ post ∧ v * 2 ^ (7 * i) < 2 ^ 64 ∧ (0 < i → v ≠ 0)) ∧ 0 ≤ r.2.2
 | [], i, acc, _, _ => ⟨_, rfl, (by intro h; cases h), by decide⟩
 | y :: q, i, acc, hl, ha => by
  rw [qk] at hl
  rw [xe.l12]
  by_cases h9 : ((decide ((i : Int) = 9)) && (decide (1 < (y.toNat : Int)))) = true
  · rw [if_pos h9]; exact ⟨_, rfl, (by intro h; cases h), by decide⟩
  rw [if_neg h9]
  have h9' : i = 9 → y.toNat ≤ 1 := by
   intro e
   simp only [ql, decide_eq_true_eq, not_and] at h9
   have := h9 (by omega); omega
  obtain ⟨st, sb, sn⟩ := stepv (y := y) (show i ≤ 9 by omega) ha h9'
  rw [st, YD (by rw [yF (by omega) (by omega)]; omega), qf]
  have hy : y.toNat < 256 := y.toNat_lt
  by_cases h1 : (128 : Int) ≤ (y.toNat : Int)
  · rw [if_pos h1]
    have hi8 : i < 9 := by
     apply Nat.lt_of_not_le; intro hc
     have := h9' (by omega); omega
    obtain ⟨r, e, hr, h0⟩ := vaJ a hA q (i + 1) (acc + y.toNat % 128 * 2 ^ (7 * i)) (by omega) (sn hi8)
    rw [show ((i : Int) + 1) = ((i + 1 : Nat) : Int) by omega]
    refine ⟨r, e, ?_, h0⟩
    intro hz
    obtain ⟨v, post, hq, hv, hn⟩ := hr hz
    have hp : 2 ^ (7 * (i + 1)) = 128 * 2 ^ (7 * i) := by rw [show 7 * (i + 1) = 7 + 7 * i by omega, Nat.pow_add]
    have hvn := hn (by omega)
    have hw : ¬ (v * 128 + y.toNat % 128) < 128 := by omega
    refine ⟨v * 128 + y.toNat % 128, post, ?_, ?_, by intro _; omega⟩
    · rw [vb_ge hw, show (v * 128 + y.toNat % 128) % 128 + 128 = y.toNat by omega, show (v * 128 + y.toNat % 128) / 128 = v by omega, UInt8.ofNat_toNat, hq]; rfl
    rw [hp] at hv
    have hmul : (v * 128 + y.toNat % 128) * 2 ^ (7 * i) = v * (128 * 2 ^ (7 * i)) + y.toNat % 128 * 2 ^ (7 * i) := by rw [uR, Nat.mul_assoc]
    rw [hmul]
    by_cases hi7 : i < 9
    · have hd : y.toNat % 128 * 2 ^ (7 * i) < 128 * 2 ^ (7 * i) := Nat.mul_lt_mul_of_pos_right (by omega) (Nat.pow_pos (by decide))
      have h64 : 128 * 2 ^ (7 * i) ∣ 2 ^ 64 := by rw [← hp]; exact Nat.pow_dvd_pow 2 (by omega)
      obtain ⟨c, hc⟩ := h64
      rw [hc] at hv ⊢
      have hvc : v < c := by
       apply Nat.lt_of_not_le; intro hle
       have := qQ (128 * 2 ^ (7 * i)) hle
       rw [Nat.mul_comm c] at this; omega
      have h3 : (v + 1) * (128 * 2 ^ (7 * i)) ≤ c * (128 * 2 ^ (7 * i)) := qQ _ hvc
      rw [uR, Nat.one_mul] at h3
      rw [Nat.mul_comm (128 * 2 ^ (7 * i)) c]; omega
    omega
  rw [if_neg h1]
  by_cases h2 : ((decide ((y.toNat : Int) = 0)) && (decide (0 < (i : Int)))) = true
  · rw [if_pos h2]; exact ⟨_, rfl, (by intro h; cases h), by decide⟩
  rw [if_neg h2]
  refine ⟨_, rfl, ?_, Int.le_refl 0⟩
  intro _
  refine ⟨y.toNat, q, ?_, ?_, ?_⟩
  · rw [vb_lt (by omega), UInt8.ofNat_toNat]; rfl
  · rw [Nat.mod_eq_of_lt (by omega)] at sb; omega
  intro hi e
  apply h2
  simp only [ql, decide_eq_true_eq]; omega
theorem get_head {b : List UInt8} {n : Nat} (hb : b.length ≤ 4096) (hn : n ≤ b.length) : xe b (n : Int) = xe.l12 (n : Int) ((b.drop n).take 10) 0 0 := by
 have e1 : IntKind.i64.wrap ((qc b : Int) - (n : Int)) = ((b.length - n : Nat) : Int) := by rw [yF (by omega) (by omega)]; omega
 rw [xe, if_neg (by simp only [qH, decide_eq_true_eq]; omega), e1]
 by_cases h : (10 : Int) < ((b.length - n : Nat) : Int)
 · rw [if_pos h]
   have e2 : IntKind.i64.wrap ((n : Int) + 10) = ((n + 10 : Nat) : Int) := by rw [yF (by omega) (by omega)]; omega
   rw [e2, YD (by omega), qf, YF, qN, qN, show n + 10 - n = 10 by omega]
 rw [if_neg h]
 have e2 : IntKind.i64.wrap ((n : Int) + ((b.length - n : Nat) : Int)) = (b.length : Int) := by rw [yF (by omega) (by omega)]; omega
 rw [e2, YD (by omega), qf, YF, qN, qN, uc (by rw [uG]; exact qq _), uc (by rw [uG]; omega)]
theorem get_ok {b post : List UInt8} {n v : Nat} (hb : b.length ≤ 4096) (hn : n ≤ b.length) (h : b.drop n = vb v ++ post) (hv : v < 2 ^ 64) : xe b (n : Int) = some ((v : Int), ((n + (vb v).length : Nat) : Int), 0) := by
 have := vaK n (by omega) ((b.drop n).take 10) (post.take (10 - (vb v).length)) v 0 0 (by rw [h, List.take_append, uc (vb_len10 hv)]) (by omega) (by decide) (by omega) (by omega)
 rw [get_head hb hn]
 simpa using this
theorem get_inv {b : List UInt8} {n : Nat} (hb : b.length ≤ 4096) (hn : n ≤ b.length) : ∃ r, xe b (n : Int) = some r ∧ (r.2.2 = 0 → ∃ v post, b.drop n = vb v ++ post ∧ v < 2 ^ 64 ∧ r = ((v : Int), ((n + (vb v).length : Nat) : Int), 0)) ∧ 0 ≤ r.2.2 := by
 obtain ⟨r, e, hr, h0⟩ := vaJ n (by omega) ((b.drop n).take 10) 0 0 (by rw [uF]; omega) (by decide)
 rw [get_head hb hn]
 refine ⟨r, e, ?_, h0⟩
 intro hz
 obtain ⟨v, post, hq, hv, _⟩ := hr hz
 have hv' : v < 2 ^ 64 := by omega
 have hd : b.drop n = vb v ++ (post ++ (b.drop n).drop 10) := by
  rw [← qr, ← hq, uk]
 refine ⟨v, _, hd, hv', ?_⟩
 have := get_ok hb hn hd hv'
 rw [get_head hb hn] at this
 exact Option.some.inj (e.symm.trans this)
end
section
set_option maxRecDepth 4000
open AM
def In64 (n : Int) : Prop := -9223372036854775808 ≤ n ∧ n < 9223372036854775808
def zg (n : Int) : Nat := if 0 ≤ n then (2 * n).toNat else (-2 * n - 1).toNat
def zu (v : Nat) : Int := if v % 2 = 0 then ((v / 2 : Nat) : Int) else -((v / 2 : Nat) : Int) - 1
theorem zg_lt {n : Int} (h : In64 n) : zg n < 2 ^ 64 := by
 unfold zg; obtain ⟨h1, h2⟩ := h; split <;> omega
theorem zu_zg (n : Int) : zu (zg n) = n := by
 unfold zg zu; split <;> split <;> omega
theorem zg_zu (v : Nat) : zg (zu v) = v := by
 unfold zg zu; split <;> split <;> omega
theorem zu_in {v : Nat} (h : v < 2 ^ 64) : In64 (zu v) := by
 unfold zu In64; split <;> omega
theorem bvm1 : qv 64 (-1) = BitVec.allOnes 64 := by decide
theorem bv0 : qv 64 0 = 0#64 := by decide
theorem fdiv2 (n : Int) (k : Nat) : Int.fdiv n (2 ^ k) = n / (2 ^ k) := Int.fdiv_eq_ediv_of_nonneg _ (Int.le_of_lt (Int.pow_pos (by decide)))
theorem vint_Zig_eq {n : Int} (h : In64 n) : Zg n = (zg n : Int) := by
 obtain ⟨h1, h2⟩ := h
 unfold Zg zg
 rw [show min (qB 1) 64 = 1 from rfl, show min (qB 63) 64 = 63 from rfl, fdiv2]
 by_cases h0 : 0 ≤ n
 · have e : n / 2 ^ 63 = 0 := Int.ediv_eq_zero_of_lt h0 (by omega)
   rw [if_pos h0, e, show IntKind.u64.wrap 0 = 0 from by rw [IntKind.wrap_u64]; rfl, bv0, BitVec.xor_zero]
   have e2 : IntKind.u64.wrap (IntKind.u64.wrap n * 2 ^ 1) = (((2 * n).toNat : Nat) : Int) := by rw [IntKind.wrap_u64, IntKind.wrap_u64]; omega
   rw [e2, bv64 (by omega), u64w (by omega)]
 have e : n / 2 ^ 63 = -1 := by omega
 have e1 : IntKind.u64.wrap (-1) = 18446744073709551615 := by rw [IntKind.wrap_u64]; rfl
 have e3 : qv 64 18446744073709551615 = BitVec.allOnes 64 := by decide
 rw [if_neg h0, e, e1, e3, BitVec.xor_allOnes, BitVec.toNat_not]
 have e2 : IntKind.u64.wrap (IntKind.u64.wrap n * 2 ^ 1) = (((2 * n + 18446744073709551616).toNat : Nat) : Int) := by rw [IntKind.wrap_u64, IntKind.wrap_u64]; omega
 rw [e2, bv64 (by omega), u64w (by omega)]
 omega
theorem vint_Zag_eq {v : Nat} (h : v < 2 ^ 64) : Zh (v : Int) = zu v := by
 unfold Zh zu
 rw [show min (qB 1) 64 = 1 from rfl, fdiv2]
 have ea : (qv 64 (v : Int) &&& qv 64 1).toNat = v % 2 := by
  rw [BitVec.toNat_and, bv64 h, show (qv 64 1).toNat = 1 from by decide, Nat.and_one_is_mod]
 have e1 : IntKind.i64.wrap ((v : Int) / 2 ^ 1) = ((v / 2 : Nat) : Int) := by rw [yF (by omega) (by omega)]; omega
 rw [ea, e1, u64w (n := v % 2) (by omega)]
 by_cases h0 : v % 2 = 0
 · rw [if_pos h0, h0]
   have e2 : IntKind.i64.wrap (0 - IntKind.i64.wrap ((0 : Nat) : Int)) = 0 := by decide
   rw [e2, bv0, BitVec.xor_zero, bv64 (by omega), yF (by omega) (by omega)]
 have h1 : v % 2 = 1 := by omega
 rw [if_neg h0, h1]
 have e2 : IntKind.i64.wrap (0 - IntKind.i64.wrap ((1 : Nat) : Int)) = -1 := by decide
 rw [e2, bvm1, BitVec.xor_allOnes, BitVec.toNat_not, bv64 (by omega), IntKind.wrap_i64]
 omega
def ZD (r : GRaw) : Prop := yw r = true ∧ In64 r.fN
def va8 (r : GRaw) : Nat := (2 * r.fTag + r.fWire).toNat
def Xa (r : GRaw) : List UInt8 := vb (va8 r) ++ (if r.fWire = 0 then vb (zg r.fN) else vb r.fB.length ++ r.fB)
def xL (l : List GRaw) : List UInt8 := l.flatMap Xa
theorem Ze {r : GRaw} (h : yw r = true) : 1 ≤ r.fTag ∧ r.fTag ≤ 500 ∧ ((r.fWire = 0 ∧ r.fB = []) ∨ (r.fWire = 1 ∧ r.fN = 0 ∧ r.fB.length ≤ 4096)) := by
 unfold yw at h
 split at h
 · cases h
 rename_i h1
 simp only [qH, decide_eq_true_eq, not_or] at h1
 refine ⟨by omega, by omega, ?_⟩
 split at h
 · left; exact ⟨‹_›, by simpa using h⟩
 split at h
 · right
   simp only [ql, decide_eq_true_eq] at h
   exact ⟨‹_›, h.1, by omega⟩
 cases h
theorem check_num {t n : Int} (h1 : 1 ≤ t) (h2 : t ≤ 500) : yw ⟨t, 0, n, []⟩ = true := by
 unfold yw
 rw [if_neg (by simp only [qH, decide_eq_true_eq]; omega)]; rfl
theorem X6 {t : Int} {s : List UInt8} (h1 : 1 ≤ t) (h2 : t ≤ 500) (h3 : s.length ≤ 4096) : yw ⟨t, 1, 0, s⟩ = true := by
 unfold yw
 rw [if_neg (by simp only [qH, decide_eq_true_eq]; omega)]
 simp only [decide_true, uE]
 rw [if_neg (by decide), if_pos trivial]; exact decide_eq_true (by omega)
theorem rawB_pos (r : GRaw) : 2 ≤ (Xa r).length := by
 unfold Xa
 have h1 := vb_pos (va8 r)
 have h2 := vb_pos (zg r.fN)
 have h3 := vb_pos r.fB.length
 split <;> simp only [qi] <;> omega
theorem wire_Put_eq {a : List UInt8} {r : GRaw} (h : ZD r) (ha : a.length ≤ 1000000) : Zf a r = some (a ++ Xa r, true) := by
 obtain ⟨hc, hn⟩ := h
 obtain ⟨h1, h2, h3⟩ := Ze hc
 unfold Zf bnd
 rw [hc]; simp only []
 have ek : IntKind.u64.wrap (IntKind.i64.wrap ((IntKind.i64.wrap (2 * r.fTag)) + r.fWire)) = ((va8 r : Nat) : Int) := by
  rw [yF (x := 2 * r.fTag) (by omega) (by omega), yF (by omega) (by omega), u64i (by omega) (by omega), va8]; omega
 have k1 : va8 r < 2 ^ 64 := by unfold va8; omega
 have kl := vb_len10 k1
 rw [if_neg (by decide), ek, Xg a k1 (by omega), qf]
 rcases h3 with ⟨h3, h4⟩ | ⟨h3, h4, h5⟩
 · rw [if_pos h3, vint_Zig_eq hn, Xg _ (zg_lt hn) (by rw [qi]; omega), qf, Xa, if_pos h3, qr]
 have hb := vb_len10 (n := r.fB.length) (by omega)
 rw [if_neg (by omega), u64w (by omega), Xg _ (by omega) (by rw [qi]; omega), qf, xG (by simp only [qi]; omega), qf, Xa, if_neg (by omega)]
 simp only [qr]
theorem putAll_l11 : ∀ (q : List GRaw) (x : Int) (acc : List UInt8), (∀ r ∈ q, ZD r) → acc.length ≤ 4096 → zZ.l11 q x acc = some (if 4096 < (acc ++ xL q).length then ([], 4) else (acc ++ xL q, 0))
 | [], x, acc, _, ha => by
  rw [zZ.l11, xL, un, qx, if_neg (by omega)]
 | r :: q, x, acc, h, ha => by
  have hr := h r (qo ..)
  rw [zZ.l11, wire_Put_eq hr (by omega), qf]; dsimp only
  have e : acc ++ xL (r :: q) = (acc ++ Xa r) ++ xL q := by rw [xL, qP, qr]; rfl
  rw [e]
  by_cases h1 : 4096 < (acc ++ Xa r).length
  · rw [if_pos (by omega), if_pos (by rw [qi]; omega)]
  rw [if_neg (by omega), putAll_l11 q (x + 1) _ (fun s hs => h s (qp _ hs)) (by omega)]
theorem putAll_l4 (a : List GRaw) : ∀ (q : List GRaw) (x : Int), zZ.l4 a q x = if q.all yw then zZ.l11 a 0 [] else some ([], 1)
 | [], x => by rw [zZ.l4]; rfl
 | r :: q, x => by
  rw [zZ.l4, bnd, qZ]
  by_cases h : yw r = true
  · rw [h, if_neg (by decide), putAll_l4 a q]; rfl
  rw [if_pos (by simpa using h), if_neg (by rw [ql]; exact fun hh => h hh.1)]
theorem putAll_eq {l : List GRaw} (h : ∀ r ∈ l, In64 r.fN) : zZ l = some (if l.all yw then (if 4096 < (xL l).length then ([], 4) else (xL l, 0)) else ([], 1)) := by
 rw [zZ, putAll_l4]
 by_cases h1 : l.all yw = true
 · rw [if_pos h1, if_pos h1, putAll_l11 l 0 [] (fun r hr => ⟨q3.1 h1 r hr, h r hr⟩) (by decide)]; rfl
 rw [if_neg h1, if_neg h1]
theorem ZB {b x post : List UInt8} {n : Nat} (h : b.drop n = x ++ post) : b.drop (n + x.length) = post := by
 rw [← List.drop_drop, h, List.drop_left' rfl]
theorem Y4 {b x post : List UInt8} {n : Nat} (hn : n ≤ b.length) (h : b.drop n = x ++ post) : n + x.length + post.length = b.length := by
 have := congrArg qc h
 rw [uG, qi] at this; omega
theorem one_ok {b post : List UInt8} {n : Nat} {r : GRaw} (hb : b.length ≤ 4096) (hn : n ≤ b.length) (h : b.drop n = Xa r ++ post) (hr : ZD r) : wj b (n : Int) = some (r, ((n + (Xa r).length : Nat) : Int), 0) := by
 obtain ⟨hc, hN⟩ := hr
 obtain ⟨h1, h2, h3⟩ := Ze hc
 have k1 : va8 r < 2 ^ 64 := by unfold va8; omega
 rw [Xa, qr] at h
 have hl := Y4 hn h
 unfold wj
 rw [get_ok hb hn h k1, qf]
 have hk : va8 r = (2 * r.fTag + r.fWire).toNat := rfl
 have d1 : ((va8 r : Nat) : Int).tdiv 2 = r.fTag := by rw [Int.tdiv_eq_ediv_of_nonneg (by omega), hk]; rcases h3 with h3 | h3 <;> omega
 have d2 : ((va8 r : Nat) : Int).tmod 2 = r.fWire := by rw [Int.tmod_eq_emod_of_nonneg (by omega), hk]; rcases h3 with h3 | h3 <;> omega
 simp only [d1, d2]
 rw [if_pos trivial, if_neg (by rw [u64i (by omega) (by omega)]; simp only [qH, decide_eq_true_eq]; omega), u64i (x := r.fTag) (by omega) (by omega), yF (x := r.fTag) (by omega) (by omega), yF (x := r.fWire) (by omega) (by omega)]
 have h' := ZB h
 rcases h3 with ⟨h3, h4⟩ | ⟨h3, h4, h5⟩
 · rw [if_pos h3] at h'
   rw [get_ok hb (by omega) h' (zg_lt hN), qf]
   simp only []
   rw [if_pos trivial, if_pos h3, bnd, vint_Zag_eq (zg_lt hN), zu_zg, Xa, if_pos h3]
   have e : r = ⟨r.fTag, r.fWire, r.fN, []⟩ := by cases r; simp only at h4; subst h4; rfl
   rw [← e, qi, Nat.add_assoc]
 rw [if_neg (by omega)] at h' hl
 rw [qr] at h'
 have hl' := Y4 (by omega) h'
 rw [qi] at hl'
 rw [get_ok hb (by omega) h' (show r.fB.length < 2 ^ 64 by omega), qf]
 simp only []
 have h'' := ZB h'
 have e1 : IntKind.i64.wrap ((b.length : Int) - ((n + (vb (va8 r)).length + (vb r.fB.length).length : Nat) : Int)) = ((r.fB.length + post.length : Nat) : Int) := by rw [yF (by omega) (by omega)]; omega
 have e2 : IntKind.i64.wrap (r.fB.length : Int) = (r.fB.length : Int) := yF (by omega) (by omega)
 have e3 : IntKind.i64.wrap (((n + (vb (va8 r)).length + (vb r.fB.length).length : Nat) : Int) + (r.fB.length : Int)) = ((n + (vb (va8 r)).length + (vb r.fB.length).length + r.fB.length : Nat) : Int) := by rw [yF (by omega) (by omega)]; omega
 rw [if_pos trivial, if_neg (by omega), e1, u64w (by omega), if_neg (by omega), e2, e3, YD (by omega), qf, YF, qN, qN, h'', Nat.add_sub_cancel_left, List.take_left' rfl, Xa, if_neg (by omega), qi, qi]
 have e : r = ⟨r.fTag, r.fWire, 0, r.fB⟩ := by cases r; simp only at h4; subst h4; rfl
 rw [← e, show n + (vb (va8 r)).length + (vb r.fB.length).length + r.fB.length = n + ((vb (va8 r)).length + ((vb r.fB.length).length + r.fB.length)) by omega]
theorem one_inv {b : List UInt8} {n : Nat} (hb : b.length ≤ 4096) (hn : n ≤ b.length) : ∃ r, wj b (n : Int) = some r ∧
 (r.2.2 = 0 → ∃ x post, b.drop n = Xa x ++ post ∧ ZD x ∧ r = (x, ((n + (Xa x).length : Nat) : Int), 0)) ∧ 0 ≤ r.2.2 := by
 obtain ⟨r1, e1, i1, p1⟩ := get_inv hb hn
 by_cases z1 : r1.2.2 = 0
 · obtain ⟨v, post, hd, hv, rfl⟩ := i1 z1
   have hl := Y4 hn hd
   have hd' := ZB hd
   by_cases c1 : (decide ((v : Int) < 2) || decide ((500 : Int) < IntKind.u64.wrap ((v : Int).tdiv 2))) = true
   · refine ⟨_, by unfold wj; rw [e1, qf, if_pos rfl, if_pos c1], ?_, by decide⟩
     intro h; exact absurd h (by decide)
   have c1' := c1
   simp only [qH, decide_eq_true_eq, not_or] at c1
   obtain ⟨c2, c3⟩ := c1
   have d1 : (v : Int).tdiv 2 = ((v / 2 : Nat) : Int) := by rw [Int.tdiv_eq_ediv_of_nonneg (by omega)]; omega
   have d2 : (v : Int).tmod 2 = ((v % 2 : Nat) : Int) := by rw [Int.tmod_eq_emod_of_nonneg (by omega)]; omega
   rw [d1, u64w (by omega)] at c3
   obtain ⟨r2, e2, i2, p2⟩ := get_inv hb (n := n + (vb v).length) (by omega)
   by_cases z2 : r2.2.2 = 0
   · obtain ⟨w, post2, hd2, hw, rfl⟩ := i2 z2
     have hl2 := Y4 (by omega) hd2
     by_cases c4 : v % 2 = 0
     · have ok : ZD ⟨((v / 2 : Nat) : Int), 0, zu w, []⟩ := ⟨check_num (by omega) (by omega), zu_in hw⟩
       have hkey : va8 ⟨((v / 2 : Nat) : Int), 0, zu w, []⟩ = v := by unfold va8; simp only []; omega
       have hdr : b.drop n = Xa ⟨((v / 2 : Nat) : Int), 0, zu w, []⟩ ++ post2 := by
        rw [Xa, hkey, if_pos rfl]; simp only [zg_zu]; rw [hd, ← hd', hd2, qr]
       refine ⟨_, one_ok hb hn hdr ok, ?_, Int.le_refl 0⟩
       intro _; exact ⟨_, _, hdr, ok, rfl⟩
     have c5 : v % 2 = 1 := by omega
     by_cases c6 : w ≤ post2.length
     · have ok : ZD ⟨((v / 2 : Nat) : Int), 1, 0, post2.take w⟩ := ⟨X6 (by omega) (by omega) (by rw [uF]; omega), (show In64 0 from ⟨by decide, by decide⟩)⟩
       have hkey : va8 ⟨((v / 2 : Nat) : Int), 1, 0, post2.take w⟩ = v := by unfold va8; simp only []; omega
       have hdr : b.drop n = Xa ⟨((v / 2 : Nat) : Int), 1, 0, post2.take w⟩ ++ post2.drop w := by
        rw [Xa, hkey, if_neg (show ¬ (1 : Int) = 0 by decide)]
        simp only [uF, Nat.min_eq_left c6]
        rw [hd, ← hd', hd2, qr, qr, uk]
       refine ⟨_, one_ok hb hn hdr ok, ?_, Int.le_refl 0⟩
       intro _; exact ⟨_, _, hdr, ok, rfl⟩
     have e3 : IntKind.i64.wrap ((b.length : Int) - ((n + (vb v).length + (vb w).length : Nat) : Int)) = ((post2.length : Nat) : Int) := by rw [yF (by omega) (by omega)]; omega
     refine ⟨_, by unfold wj; rw [e1, qf, if_pos rfl, if_neg c1', e2, qf, if_pos rfl, d2, if_neg (by rw [yF (by omega) (by omega)]; omega), e3, u64w (by omega), if_pos (by omega)], ?_, by decide⟩
     intro h; exact absurd h (by decide)
   refine ⟨_, by unfold wj; rw [e1, qf, if_pos rfl, if_neg c1', e2, qf, if_neg z2], ?_, p2⟩
   intro h; exact absurd h z2
 refine ⟨_, by unfold wj; rw [e1, qf, if_neg z1], ?_, p1⟩
 intro h; exact absurd h z1
theorem xx (r : GRaw) (l : List GRaw) : xL (r :: l) = Xa r ++ xL l := by rw [xL, qP]; rfl
theorem wV (l m : List GRaw) : xL (l ++ m) = xL l ++ xL m := by rw [xL, q1]; rfl
theorem get_l_ok {b : List UInt8} (hb : b.length ≤ 4096) : ∀ (l : List GRaw) (k n : Nat) (acc : List GRaw), n ≤ b.length → b.drop n = xL l → (∀ r ∈ l, ZD r) → 2 * acc.length ≤ n → b.length < k + n →
 y7.l12 b k acc (n : Int) = some (acc ++ l, 0)
 | l, 0, n, acc, hn, _, _, _, hk => by omega
 | [], k + 1, n, acc, hn, hd, _, _, hk => by
  have := congrArg qc hd
  rw [uG, xL, un, qn] at this
  rw [y7.l12, if_neg (by omega), qx]
 | r :: l, k + 1, n, acc, hn, hd, hr, ha, hk => by
  rw [xx] at hd
  have hl := Y4 hn hd
  have h2 := rawB_pos r
  rw [y7.l12, if_pos (by omega), one_ok hb hn hd (hr r (qo ..)), qf, if_pos rfl, xG (by omega), qf]
  rw [get_l_ok hb l k (n + (Xa r).length) (acc ++ [r]) (by omega) (ZB hd) (fun s hs => hr s (qp _ hs)) (by rw [qi, qG]; omega) (by omega), qr]; rfl
theorem get_l_inv {b : List UInt8} (hb : b.length ≤ 4096) : ∀ (k n : Nat) (acc : List GRaw), n ≤ b.length → 2 * acc.length ≤ n → b.length < k + n →
 ∃ r, y7.l12 b k acc (n : Int) = some r ∧ (r.2 = 0 → ∃ l, b.drop n = xL l ∧ (∀ r ∈ l, ZD r) ∧ r = (acc ++ l, 0)) ∧ 0 ≤ r.2 ∧ (r.2 ≠ 0 → r.1 = [])
 | 0, n, acc, hn, _, hk => by omega
 | k + 1, n, acc, hn, ha, hk => by
  by_cases h : n < b.length
  · obtain ⟨r1, e1, i1, p1⟩ := one_inv hb hn
    by_cases z1 : r1.2.2 = 0
    · obtain ⟨x, post, hd, ok, rfl⟩ := i1 z1
      have hl := Y4 hn hd
      have h2 := rawB_pos x
      obtain ⟨r2, e2, i2, p2⟩ := get_l_inv hb k (n + (Xa x).length) (acc ++ [x]) (by omega) (by rw [qi, qG]; omega) (by omega)
      refine ⟨r2, by rw [y7.l12, if_pos (by omega), e1, qf, if_pos rfl, xG (by omega), qf]; exact e2, ?_, p2⟩
      intro hz
      obtain ⟨l, hd2, hok, rfl⟩ := i2 hz
      refine ⟨x :: l, ?_, ?_, by rw [qr]; rfl⟩
      · rw [xx, hd, ← hd2, ZB hd]
      intro s hs
      rcases qD.1 hs with rfl | hs
      · exact ok
      exact hok s hs
    refine ⟨_, by rw [y7.l12, if_pos (by omega), e1, qf, if_neg z1], fun h => absurd h z1, p1, fun _ => rfl⟩
  refine ⟨_, by rw [y7.l12, if_neg (by omega)], fun _ => ⟨[], ?_, (fun r hr => by cases hr), by rw [qx]⟩, Int.le_refl 0, fun h => absurd rfl h⟩
  rw [List.drop_eq_nil_of_le (by omega)]; rfl
theorem get_rounds : 4097 ≤ rounds := by decide
theorem wire_Get_ok {l : List GRaw} (h : ∀ r ∈ l, ZD r) (hb : (xL l).length ≤ 4096) : y7 (xL l) = some (l, 0) := by
 rw [y7, if_neg (by omega)]
 have := get_l_ok hb l rounds 0 [] (um _) rfl h (qq _) (by have := get_rounds; omega)
 simpa using this
theorem X9 (b : List UInt8) : ∃ r, y7 b = some r ∧ (r.2 = 0 → b = xL r.1 ∧ b.length ≤ 4096 ∧ ∀ x ∈ r.1, ZD x) ∧ 0 ≤ r.2 ∧ (r.2 ≠ 0 → r.1 = []) := by
 by_cases hb : b.length ≤ 4096
 · obtain ⟨r, e, i, p, q⟩ := get_l_inv hb rounds 0 [] (um _) (qq _) (by have := get_rounds; omega)
   refine ⟨r, by rw [y7, if_neg (by omega)]; exact e, ?_, p, q⟩
   intro hz
   obtain ⟨l, hd, ok, rfl⟩ := i hz
   exact ⟨hd, hb, ok⟩
 refine ⟨_, by rw [y7, if_pos (by omega)], fun h => absurd h (by decide), by decide, fun _ => rfl⟩
end
section
set_option maxRecDepth 4000
open AM
def vae (r : GRaw) : List GRaw → List GRaw
 | [] => [r]
 | x :: l => if r.fTag < x.fTag then r :: x :: l else x :: vae r l
def vaS : List GRaw → List GRaw → List GRaw
 | [], S => S
 | r :: q, S => vaS q (vae r S)
def srt (l : List GRaw) : List GRaw := vaS l []
def TagLe (a b : GRaw) : Prop := a.fTag ≤ b.fTag
theorem insR_app {r : GRaw} : ∀ {A B : List GRaw}, (∀ a ∈ A, a.fTag ≤ r.fTag) → (∀ b ∈ B, r.fTag < b.fTag) → vae r (A ++ B) = A ++ r :: B
 | [], [], _, _ => rfl
 | [], b :: B, _, hB => by
  rw [qA, vae, if_pos (hB b (qo ..))]; rfl
 | a :: A, B, hA, hB => by
  rw [qC, vae, if_neg (by have := hA a (qo ..); omega), insR_app (fun x hx => hA x (qp _ hx)) hB]; rfl
theorem insR_mem {r x : GRaw} : ∀ {l : List GRaw}, x ∈ vae r l ↔ x = r ∨ x ∈ l
 | [] => by simp [vae]
 | y :: l => by
  rw [vae]; split
  · simp
  rw [qD, insR_mem, qD]
  constructor
  · rintro (h | h | h)
    · exact Or.inr (Or.inl h)
    · exact Or.inl h
    exact Or.inr (Or.inr h)
  rintro (h | h | h)
  · exact Or.inr (Or.inl h)
  · exact Or.inl h
  exact Or.inr (Or.inr h)
theorem vaz (r : GRaw) : ∀ l : List GRaw, (vae r l).length = l.length + 1
 | [] => rfl
 | x :: l => by
  rw [vae]; split
  · rfl
  rw [qk, vaz r l, qk]
theorem Zy {r : GRaw} : ∀ {l : List GRaw}, l.Pairwise TagLe → (vae r l).Pairwise TagLe
 | [], _ => by simp [vae]
 | x :: l, h => by
  rw [uj] at h
  rw [vae]; split
  · rename_i hlt
    rw [uj, uj]
    refine ⟨?_, h⟩
    intro y hy
    rcases qD.1 hy with rfl | hy
    · unfold TagLe; omega
    have := h.1 y hy; unfold TagLe at *; omega
  rename_i hge
  rw [uj]
  refine ⟨?_, Zy h.2⟩
  intro y hy
  rcases insR_mem.1 hy with rfl | hy
  · unfold TagLe; omega
  exact h.1 y hy
theorem va9 {r : GRaw} (t : Int) : ∀ {l : List GRaw}, l.Pairwise TagLe → (vae r l).filter (fun x => x.fTag = t) = l.filter (fun x => x.fTag = t) ++ (if r.fTag = t then [r] else [])
 | [], _ => by rw [vae, List.filter_nil, qA, ut, List.filter_nil]; simp only [decide_eq_true_eq]
 | x :: l, h => by
  rw [uj] at h
  rw [vae]; split
  · rename_i hlt
    rw [ut]
    by_cases hr : r.fTag = t
    · have hn : (x :: l).filter (fun x => x.fTag = t) = [] := by
       rw [List.filter_eq_nil_iff]
       intro y hy
       simp only [decide_eq_true_eq]
       rcases qD.1 hy with rfl | hy
       · omega
       have := h.1 y hy; unfold TagLe at this; omega
      rw [hn, if_pos (by simpa using hr), if_pos hr]; rfl
    rw [if_neg (by simpa using hr), if_neg hr, qx]
  rw [ut, ut, va9 t h.2]
  split <;> rfl
theorem vaQ : ∀ {l S : List GRaw}, S.Pairwise TagLe → (vaS l S).Pairwise TagLe
 | [], _, h => h
 | r :: l, S, h => by rw [vaS]; exact vaQ (l := l) (Zy h)
theorem XP (l : List GRaw) : (srt l).Pairwise TagLe := vaQ List.Pairwise.nil
theorem srtA_len : ∀ (l S : List GRaw), (vaS l S).length = S.length + l.length
 | [], _ => rfl
 | r :: l, S => by rw [vaS, srtA_len, vaz, qk]; omega
theorem srt_len (l : List GRaw) : (srt l).length = l.length := by rw [srt, srtA_len, qn, qt]
theorem srtA_mem {x : GRaw} : ∀ {l S : List GRaw}, x ∈ vaS l S ↔ x ∈ S ∨ x ∈ l
 | [], S => by simp [vaS]
 | r :: l, S => by
  rw [vaS, srtA_mem, insR_mem, qD]
  constructor
  · rintro ((h | h) | h)
    · exact Or.inr (Or.inl h)
    · exact Or.inl h
    exact Or.inr (Or.inr h)
  rintro (h | h | h)
  · exact Or.inl (Or.inr h)
  · exact Or.inl (Or.inl h)
  exact Or.inr h
theorem srt_mem {x : GRaw} {l : List GRaw} : x ∈ srt l ↔ x ∈ l := by rw [srt, srtA_mem]; simp
theorem vaR (t : Int) : ∀ {l S : List GRaw}, S.Pairwise TagLe → (vaS l S).filter (fun x => x.fTag = t) = S.filter (fun x => x.fTag = t) ++ l.filter (fun x => x.fTag = t)
 | [], S, _ => by rw [vaS, List.filter_nil, qx]
 | r :: l, S, h => by
  rw [vaS, vaR t (Zy h), va9 t h, ut, qr]
  congr 1
  simp only [decide_eq_true_eq]
  split <;> rfl
theorem srt_filter (l : List GRaw) (t : Int) : (srt l).filter (fun x => x.fTag = t) = l.filter (fun x => x.fTag = t) := by
 rw [srt, vaR t List.Pairwise.nil]; rfl
theorem srtA_id : ∀ {l S : List GRaw}, (S ++ l).Pairwise TagLe → vaS l S = S ++ l
 | [], S, _ => by rw [vaS, qx]
 | r :: l, S, h => by
  have hS : ∀ a ∈ S, a.fTag ≤ r.fTag := fun a ha => (List.pairwise_append.1 h).2.2 a ha r (qo ..)
  have e : vae r S = S ++ [r] := by
   have := insR_app (r := r) (A := S) (B := []) hS (fun b hb => by cases hb)
   rwa [qx] at this
  rw [vaS, e, srtA_id (by rwa [qr]), qr]; rfl
theorem srt_id {l : List GRaw} (h : l.Pairwise TagLe) : srt l = l := srtA_id (S := []) h
theorem sorted_ext : ∀ {l m : List GRaw}, l.Pairwise TagLe → m.Pairwise TagLe → (∀ t : Int, l.filter (fun x => x.fTag = t) = m.filter (fun x => x.fTag = t)) → l = m
 | [], [], _, _, _ => rfl
 | [], y :: m, _, _, h => by
  have := h y.fTag
  rw [List.filter_nil, ut, if_pos (by simp)] at this; cases this
 | x :: l, [], _, _, h => by
  have := h x.fTag
  rw [List.filter_nil, ut, if_pos (by simp)] at this; cases this
 | x :: l, y :: m, hl, hm, h => by
  rw [uj] at hl hm
  have hxy : x.fTag = y.fTag := by
   have h1 : x ∈ (y :: m).filter (fun z => z.fTag = x.fTag) := by rw [← h, ut, if_pos (by simp)]; exact qo ..
   have h2 : y ∈ (x :: l).filter (fun z => z.fTag = y.fTag) := by rw [h, ut, if_pos (by simp)]; exact qo ..
   have a1 : y.fTag ≤ x.fTag := by
    rcases qD.1 (List.mem_filter.1 h1).1 with e | h1
    · rw [e]; exact Int.le_refl _
    exact hm.1 x h1
   have a2 : x.fTag ≤ y.fTag := by
    rcases qD.1 (List.mem_filter.1 h2).1 with e | h2
    · rw [e]; exact Int.le_refl _
    exact hl.1 y h2
   omega
  have e : x = y := by
   have := h x.fTag
   rw [ut, ut, if_pos (by simp), if_pos (by simp [hxy])] at this
   injection this
  subst e
  congr 1
  refine sorted_ext hl.2 hm.2 fun t => ?_
  have := h t
  rw [ut, ut] at this
  split at this
  · injection this
  exact this
theorem srt_of {l m : List GRaw} (hm : m.Pairwise TagLe) (h : ∀ t : Int, l.filter (fun x => x.fTag = t) = m.filter (fun x => x.fTag = t)) : srt l = m :=
 sorted_ext (XP l) hm fun t => by rw [srt_filter, h]
theorem YS {α : Type} {A B : List α} {x : α} {i : Int} (h : i = A.length) : Zj (A ++ x :: B) i = some x := by
 subst h
 rw [Zj, if_pos (by omega), qN, ue (qq _), uM]; rfl
theorem idx_t {α : Type} {l : List α} {i : Int} {x : α} (h0 : 0 ≤ i) (h : l[i.toNat]? = some x) : Zj l i = some x := by rw [Zj, if_pos h0, h]
theorem sorted_l17 {r z : GRaw} {S P : List GRaw} (rec8 : Int → List GRaw → Option (List GRaw)) : ∀ (k : Nat) (A B : List GRaw), S = A ++ B → (∀ b ∈ B, r.fTag < b.fTag) → A.Pairwise TagLe → A.length < k → S.length < 1000000 →
 zH.l17 (S.length : Int) (S ++ z :: P) rec8 r k (A.length : Int) = rec8 ((S.length : Int) + 1) (vae r S ++ P)
 | 0, _, _, _, _, _, h, _ => by omega
 | k + 1, A, B, hS, hB, hA, hk, hn => by
  have stop : (∀ a ∈ A, a.fTag ≤ r.fTag) → zH.j20 (S.length : Int) (S ++ z :: P) rec8 r (A.length : Int) (zH.l17 (S.length : Int) (S ++ z :: P) rec8 r k) false = rec8 ((S.length : Int) + 1) (vae r S ++ P) := by
   intro hle
   have hl : S.length = A.length + B.length := by rw [hS, qi]
   have e1 : IntKind.i64.wrap ((A.length : Int) + 1) = ((A.length + 1 : Nat) : Int) := by rw [yF (by omega) (by omega)]; omega
   rw [zH.j20, if_neg (by decide), e1, YD (by rw [qi, qk]; omega), qf, YD (by rw [qi, qk]; omega), qf]
   have e2 : qB ((S.length : Int) + 1) = S.length + 1 := by omega
   rw [qN, qN, qN, e2, show min (S.length - A.length) (S.length + 1 - (A.length + 1)) = B.length by omega]
   have hc : ∃ w : GRaw, A.length < (S ++ z :: P).length ∧ Y7 (S ++ z :: P) (A.length + 1) A.length B.length = A ++ w :: (B ++ P) := by
    cases hB' : B with
    | nil =>
     subst hB'
     rw [qx] at hS
     refine ⟨z, by rw [hS, qi, qk]; omega, ?_⟩
     rw [Y7, hS, qn, List.take_zero, qA, uQ, List.drop_append, List.drop_eq_nil_of_le (by omega), List.take_append, uc (by omega)]
     rw [show A.length + 1 - A.length = 1 by omega]
     simp
    | cons b B' =>
     refine ⟨b, by rw [hS, hB', qi, qi, qk]; omega, ?_⟩
     rw [hS, hB', Y7]
     have t1 : ((A ++ b :: B') ++ z :: P).take (A.length + 1) = A ++ [b] := by
      rw [qr, List.take_append, uc (by omega), show A.length + 1 - A.length = 1 by omega]; rfl
     have t2 : (((A ++ b :: B') ++ z :: P).drop A.length).take (b :: B').length = b :: B' := by
      rw [qr, List.drop_left' rfl, List.take_left' rfl]
     have t3 : ((A ++ b :: B') ++ z :: P).drop (A.length + 1 + (b :: B').length) = P := by
      rw [show (A ++ b :: B') ++ z :: P = ((A ++ b :: B') ++ [z]) ++ P by rw [qr (A ++ b :: B')]; rfl]
      rw [List.drop_left']
      simp only [qi, qk, qn]; omega
     rw [t1, t2, t3]
     simp only [qr, qC, qA]
   obtain ⟨w, hlt, hc⟩ := hc
   rw [hc, YS rfl, qf, setI, qN, List.set_append_right _ _ (qq _), uM, uA, hS, insR_app hle hB, qr]; rfl
  rcases List.eq_nil_or_concat A with rfl | ⟨A', a, rfl⟩
  · rw [zH.l17, if_neg (by simp)]
    exact stop (fun a ha => by cases ha)
  rw [List.concat_eq_append] at *
  have hlA : (A' ++ [a]).length = A'.length + 1 := by rw [qi, qG]
  have hlS : S.length = (A' ++ [a]).length + B.length := by rw [hS, qi]
  have e1 : IntKind.i64.wrap (((A' ++ [a]).length : Int) - 1) = (A'.length : Int) := by
   rw [yF (by omega) (by omega)]; omega
  rw [zH.l17, if_pos (by omega), e1]
  have ei : Zj (S ++ z :: P) (A'.length : Int) = some a := by
   rw [hS, qr, qr]; exact YS rfl
  rw [ei, qf]
  by_cases hgt : r.fTag < a.fTag
  · rw [decide_eq_true hgt, zH.j20, if_pos rfl, e1]
    refine sorted_l17 rec8 k A' (a :: B) (by rw [hS, qr]; rfl) ?_ (List.pairwise_append.1 hA).1 (by omega) hn
    intro b hb
    rcases qD.1 hb with rfl | hb
    · exact hgt
    exact hB b hb
  rw [decide_eq_false hgt]
  refine stop ?_
  intro x hx
  rcases uC.1 hx with hx | hx
  · have := (List.pairwise_append.1 hA).2.2 x hx a (uD.2 rfl)
    unfold TagLe at this; omega
  rw [uD] at hx; subst hx; omega
theorem sorted_l8 : ∀ (q S P : List GRaw), P.length = q.length → S.Pairwise TagLe → S.length + q.length < 1000000 → zH.l8 q (S.length : Int) (S ++ P) = some (vaS q S)
 | [], S, P, hP, _, _ => by
  have : P = [] := qz.1 (by simpa using hP)
  subst this
  rw [zH.l8, vaS, qx]
 | r :: q, S, [], hP, _, _ => by cases hP
 | r :: q, S, z :: P, hP, hS, hn => by
  rw [qk] at hn
  rw [zH.l8, sorted_l17 (S := S) (zH.l8 q) rounds S [] (qx S).symm (fun b hb => by cases hb) hS (ua (show S.length < 1000000 by omega) (by decide)) (by omega)]
  have e : (S.length : Int) + 1 = ((vae r S).length : Int) := by rw [vaz]; omega
  rw [e, sorted_l8 q (vae r S) P (by simpa using hP) (Zy hS) (by rw [vaz]; omega), vaS]
theorem sorted_eq {l : List GRaw} (h : l.length < 1000000) : zH l = some (srt l) := by
 rw [zH, YD (by omega), qf, qN]
 exact sorted_l8 l [] _ List.length_replicate List.Pairwise.nil (by rw [qn]; omega)
end
section
set_option maxRecDepth 4000
open AM
theorem ZK (s : List UInt8) (p : Nat) : 1 ≤ (ZQ s p).2 := by
 unfold ZQ Utf8.decode
 dsimp only
 repeat' split
 all_goals first | exact qq 1 | exact (by decide : 1 ≤ 2) | exact (by decide : 1 ≤ 3) | exact (by decide : 1 ≤ 4)
theorem runesNext_t (a : List UInt8) (n : Nat) (h : a.length ≤ 9223372036854775807) : ∃ r, xM a (n : Int) = some r := by
 unfold xM
 split
 · exact ⟨_, rfl⟩
 rename_i h1
 simp only [qH, decide_eq_true_eq, not_or] at h1
 rw [YD (by omega), qf, bnd]
 split <;> exact ⟨_, rfl⟩
theorem vab (a : List UInt8) (h : a.length ≤ 9223372036854775807) : ∀ (k p : Nat), 0 < k → a.length < p + k → ∃ v, yp.l4 a k p = some v
 | 0, p, h0, hk => by omega
 | k + 1, p, _, hk => by
  have hd := ZK a p
  rw [yp.l4]
  split
  · have ih := vab a h k (p + (ZQ a p).2) (by omega) (by omega)
    split
    · obtain ⟨r, e⟩ := runesNext_t a p h
      rw [e, qf]
      split
      · exact ⟨_, rfl⟩
      exact ih
    exact ih
  exact ⟨_, rfl⟩
theorem yZ : 9223372036854775808 ≤ rounds := by decide
def vaU (b : List UInt8) : Bool := (yp b).getD false
theorem runesV_eq {a : List UInt8} (h : a.length ≤ 9223372036854775807) : yp a = some (vaU a) := by
 obtain ⟨v, e⟩ := vab a h rounds 0 (by have := yZ; omega) (by have := yZ; omega)
 unfold vaU
 rw [show yp a = some v from e]; rfl
theorem wg (t : Int) (l : List GTree) : (GEntry.mk t l).fTag = t := rfl
theorem xF (t : Int) (l : List GTree) : (GEntry.mk t l).fTrees = l := rfl
def Yk (a b : GEntry) : Prop := a.fTag < b.fTag
def Za (t : Int) (rep : Prop) [Decidable rep] (x : GTree) : List GEntry → List GEntry
 | [] => [⟨t, [x]⟩]
 | e :: l => if e.fTag < t then e :: Za t rep x l else if e.fTag = t then ⟨t, (if rep then e.fTrees else []) ++ [x]⟩ :: l else ⟨t, [x]⟩ :: e :: l
def Xo (t : Int) (rep : Prop) [Decidable rep] : List GEntry → Nat
 | [] => 1
 | e :: l => if e.fTag < t then Xo t rep l else if e.fTag = t then (if rep then e.fTrees.length else 0) + 1 else 1
theorem vau {t : Int} {rep : Prop} [Decidable rep] {x : GTree} {B : List GEntry} : ∀ {A : List GEntry}, (∀ a ∈ A, a.fTag < t) → Za t rep x (A ++ B) = A ++ Za t rep x B
 | [], _ => rfl
 | a :: A, h => by
  rw [qC, Za, if_pos (h a (qo ..)), vau fun b hb => h b (qp _ hb)]; rfl
theorem vat {t : Int} {rep : Prop} [Decidable rep] {B : List GEntry} : ∀ {A : List GEntry}, (∀ a ∈ A, a.fTag < t) → Xo t rep (A ++ B) = Xo t rep B
 | [], _ => rfl
 | a :: A, h => by
  rw [qC, Xo, if_pos (h a (qo ..)), vat fun b hb => h b (qp _ hb)]
theorem splitE (t : Int) : ∀ {es : List GEntry}, es.Pairwise Yk → ∃ A B, es = A ++ B ∧ (∀ a ∈ A, a.fTag < t) ∧ (∀ b ∈ B, t ≤ b.fTag)
 | [], _ => ⟨[], [], rfl, (fun _ h => by cases h), (fun _ h => by cases h)⟩
 | e :: es, h => by
  rw [uj] at h
  by_cases he : e.fTag < t
  · obtain ⟨A, B, rfl, hA, hB⟩ := splitE t h.2
    refine ⟨e :: A, B, rfl, ?_, hB⟩
    intro a ha
    rcases qD.1 ha with rfl | ha
    · exact he
    exact hA a ha
  refine ⟨[], e :: es, rfl, (fun _ h => by cases h), ?_⟩
  intro b hb
  rcases qD.1 hb with rfl | hb
  · omega
  have := h.1 b hb; unfold Yk at this; omega
theorem put1_eq {e : GEntry} {t : Int} (h1 : 1 ≤ e.fTag ∧ e.fTag ≤ 500) (h2 : 1 ≤ t ∧ t ≤ 500) : xp e t = e.fTag - t := by
 unfold xp; exact yF (by omega) (by omega)
theorem half {x y : Nat} (h : x + y < 9223372036854775808) : IntKind.i64.wrap (Int.fdiv (IntKind.u64.wrap (IntKind.i64.wrap ((x : Int) + (y : Int)))) (2 ^ (min (qB 1) 64))) = (((x + y) / 2 : Nat) : Int) := by
 rw [yF (x := (x : Int) + y) (by omega) (by omega), u64i (by omega) (by omega), show min (qB 1) 64 = 1 from rfl, Int.fdiv_eq_ediv_of_nonneg _ (by decide), yF (by omega) (by omega)]
 omega
def Ya (t : Int) : List GEntry → Bool
 | [] => false
 | b :: _ => decide (b.fTag = t)
theorem bs_l {t : Int} {A B : List GEntry} (ht : 1 ≤ t ∧ t ≤ 500) (hA : ∀ a ∈ A, a.fTag < t) (hB : ∀ b ∈ B, t ≤ b.fTag) (hr : ∀ e ∈ A ++ B, 1 ≤ e.fTag ∧ e.fTag ≤ 500) (hn : (A ++ B).length < 4611686018427387904) :
 ∀ (k x y : Nat), x ≤ A.length → A.length ≤ y → y ≤ (A ++ B).length → y < x + k → zp.l6 (A ++ B) t k (x : Int) (y : Int) = some ((A.length : Int), Ya t B)
 | 0, x, y, _, _, _, hk => by omega
 | k + 1, x, y, hx, hy, hl, hk => by
  rw [zp.l6]
  by_cases hlt : x < y
  · rw [if_pos (by omega), half (by omega)]
    have hm : (x + y) / 2 < (A ++ B).length := by omega
    rw [idx_t (by omega) (show (A ++ B)[qB (((x + y) / 2 : Nat) : Int)]? = some ((A ++ B)[(x + y) / 2]'hm) by rw [qN]; exact qO hm), qf, bnd, put1_eq (hr _ (List.getElem_mem hm)) ht]
    by_cases hc : (x + y) / 2 < A.length
    · have e : (A ++ B)[(x + y) / 2]'hm = A[(x + y) / 2]'hc := List.getElem_append_left hc
      have := hA _ (List.getElem_mem hc)
      rw [e, if_pos (by omega), yF (by omega) (by omega), show (((x + y) / 2 : Nat) : Int) + 1 = (((x + y) / 2 + 1 : Nat) : Int) by omega]
      exact bs_l ht hA hB hr hn k _ y (by omega) hy hl (by omega)
    have hlB : (x + y) / 2 - A.length < B.length := by rw [qi] at hm; omega
    have e : (A ++ B)[(x + y) / 2]'hm = B[(x + y) / 2 - A.length]'hlB := List.getElem_append_right (by omega)
    have := hB _ (List.getElem_mem hlB)
    rw [e, if_neg (by omega)]
    exact bs_l ht hA hB hr hn k x _ hx (by omega) (by omega) (by omega)
  have e : x = A.length := by omega
  subst e
  rw [if_neg (by omega)]
  cases B with
  | nil => rw [qx, if_neg (by omega)]; rfl
  | cons b B =>
   rw [if_pos (by rw [qi, qk]; omega), YS rfl, qf, bnd, put1_eq (hr b (uq _ (qo ..))) ht, qf, Ya]
   congr 2
   exact decide_eq_decide.2 (by omega)
theorem decode_put_eq {es : List GEntry} {f : GField} {x : GTree} (hs : es.Pairwise Yk) (hr : ∀ e ∈ es, 1 ≤ e.fTag ∧ e.fTag ≤ 500) (hf : 1 ≤ f.fTag ∧ f.fTag ≤ 500) (hn : es.length < 1000000) (ht : ∀ e ∈ es, e.fTrees.length < 1000000) :
 Yd es f x = some (Za f.fTag (f.fLabel = 3) x es, decide (Xo f.fTag (f.fLabel = 3) es ≤ 64)) := by
 obtain ⟨A, B, rfl, hA, hB⟩ := splitE f.fTag hs
 have hln : (A ++ B).length = A.length + B.length := qi
 have bs : zp (A ++ B) f.fTag = some ((A.length : Int), Ya f.fTag B) := bs_l hf hA hB hr (by omega) rounds 0 (A ++ B).length (um _) (by omega) (qq _) (by have := yZ; omega)
 rw [Yd, bs, qf, vau hA, vat hA]
 have ins : ∀ (B : List GEntry), (A ++ B).length < 1000000 → Ya f.fTag B = false → (∀ b ∈ B, f.fTag ≤ b.fTag) → ((if ((A.length : Int), Ya f.fTag B).2 = true then some (A ++ B) else (grd (0 ≤ ((A.length : Int), Ya f.fTag B).1 ∧ ((A.length : Int), Ya f.fTag B).1 ≤ ((A ++ B).length : Int))).bind fun _ => (YN ((A ++ B).length + 1) 32).bind fun _ => some ((A ++ B).take ((A.length : Int), Ya f.fTag B).1.toNat ++ ⟨f.fTag, []⟩ :: (A ++ B).drop ((A.length : Int), Ya f.fTag B).1.toNat)).bind fun es1 =>
  (Zj es1 ((A.length : Int), Ya f.fTag B).1).bind fun e =>
  (YN ((if f.fLabel = 3 then e.fTrees.length else 0) + 1) 80).bind fun _ =>
  some (es1.set ((A.length : Int), Ya f.fTag B).1.toNat ⟨e.fTag, (if f.fLabel = 3 then e.fTrees else []) ++ [x]⟩, decide ((((if f.fLabel = 3 then e.fTrees else []) ++ [x]).length : Int) ≤ 64))) = some (A ++ ⟨f.fTag, [x]⟩ :: B, true) := by
  intro B hln hh _
  have hl2 : (A ++ B).length = A.length + B.length := qi
  rw [hh]
  simp only [qN]
  rw [if_neg (by decide), YD (by omega), qf, xG (by omega), qf, qf, List.take_left' rfl, List.drop_left' rfl, YS rfl, qf, xG (by rw [xF]; split <;> decide), qf, List.set_append_right _ _ (qq _), uM, uA]
  simp only [wg, xF, ite_self, qA, qG]; rfl
 cases B with
 | nil =>
  rw [ins [] hn rfl (fun _ h => by cases h)]; rfl
 | cons b B =>
  have hb := hB b (qo ..)
  by_cases hbt : b.fTag = f.fTag
  · have hh : Ya f.fTag (b :: B) = true := decide_eq_true hbt
    have htb := ht b (uq _ (qo ..))
    rw [hh]
    simp only [qN]
    rw [if_pos trivial, qf, YS rfl, qf, xG (by split <;> omega), qf, List.set_append_right _ _ (qq _), uM, uA, Za, if_neg (show ¬ b.fTag < f.fTag by omega), if_pos hbt, Xo, if_neg (show ¬ b.fTag < f.fTag by omega), if_pos hbt, hbt]
    congr 2
    refine decide_eq_decide.2 ?_
    rw [qi, qG]
    by_cases h3 : f.fLabel = 3
    · rw [if_pos h3, if_pos h3]; omega
    rw [if_neg h3, if_neg h3, qn]; omega
  have hh : Ya f.fTag (b :: B) = false := decide_eq_false hbt
  rw [ins (b :: B) hn hh hB, Za, if_neg (by omega), if_neg hbt, Xo, if_neg (by omega), if_neg hbt]; rfl
theorem putE_mem {t : Int} {rep : Prop} [Decidable rep] {x : GTree} {e : GEntry} : ∀ {es : List GEntry}, e ∈ Za t rep x es → e ∈ es ∨ e.fTag = t
 | [], h => by rw [Za, uD] at h; subst h; exact Or.inr rfl
 | a :: es, h => by
  rw [Za] at h; split at h
  · rcases qD.1 h with rfl | h
    · exact Or.inl (qo ..)
    rcases putE_mem h with h | h
    · exact Or.inl (qp _ h)
    exact Or.inr h
  split at h
  · rcases qD.1 h with rfl | h
    · exact Or.inr rfl
    exact Or.inl (qp _ h)
  rcases qD.1 h with rfl | h
  · exact Or.inr rfl
  exact Or.inl h
theorem Xj {t : Int} {rep : Prop} [Decidable rep] {x : GTree} : ∀ {es : List GEntry}, es.Pairwise Yk → (Za t rep x es).Pairwise Yk
 | [], _ => by simp [Za]
 | a :: es, h => by
  rw [uj] at h
  rw [Za]; split
  · rename_i hlt
    rw [uj]
    refine ⟨?_, Xj h.2⟩
    intro b hb
    rcases putE_mem hb with hb | hb
    · exact h.1 b hb
    unfold Yk; omega
  split
  · rename_i hge heq
    rw [uj]
    refine ⟨?_, h.2⟩
    intro b hb
    have := h.1 b hb; unfold Yk at *; simp only [wg]; omega
  rename_i hge hne
  rw [uj, uj]
  refine ⟨?_, h⟩
  intro b hb
  rcases qD.1 hb with rfl | hb
  · unfold Yk; simp only [wg]; omega
  have := h.1 b hb; unfold Yk at *; simp only [wg]; omega
theorem putE_len {t : Int} {rep : Prop} [Decidable rep] {x : GTree} : ∀ {es : List GEntry}, (Za t rep x es).length ≤ es.length + 1
 | [] => by rw [Za]; exact qq _
 | a :: es => by
  rw [Za]; split
  · rw [qk, qk]; have := putE_len (t := t) (rep := rep) (x := x) (es := es); omega
  split <;> simp only [qk] <;> omega
theorem putE_all {t : Int} {rep : Prop} [Decidable rep] {x : GTree} {e : GEntry} : ∀ {es : List GEntry}, e ∈ Za t rep x es → e ∈ es ∨ (e.fTag = t ∧ e.fTrees.length = Xo t rep es ∧ e.fTrees ≠ [])
 | [], h => by rw [Za, uD] at h; subst h; exact Or.inr ⟨rfl, rfl, by rw [xF]; simp⟩
 | a :: es, h => by
  rw [Za] at h; rw [Xo]; split at h
  · rename_i hlt
    rw [if_pos hlt]
    rcases qD.1 h with rfl | h
    · exact Or.inl (qo ..)
    rcases putE_all h with h | h
    · exact Or.inl (qp _ h)
    exact Or.inr h
  rename_i hlt
  rw [if_neg hlt]
  split at h
  · rename_i heq
    rw [if_pos heq]
    rcases qD.1 h with rfl | h
    · refine Or.inr ⟨rfl, ?_, by rw [xF]; simp⟩
      simp only [xF, qi, qG]; split <;> rfl
    exact Or.inl (qp _ h)
  rename_i hne
  rw [if_neg hne]
  rcases qD.1 h with rfl | h
  · exact Or.inr ⟨rfl, rfl, by rw [xF]; simp⟩
  exact Or.inl h
def Zv : GTree := ⟨0, 0, [], [], []⟩
def isZ (m : GMessage) (e : GEntry) : Bool := decide ((zm m e.fTag).1.fLabel = 1) && wv (e.fTrees.headD Zv)
def zdel (m : GMessage) (es : List GEntry) : List GEntry := es.filter fun e => !isZ m e
theorem XG {m : GMessage} : ∀ {es : List GEntry}, (∀ e ∈ es, e.fTrees ≠ []) → wh m es = some (zdel m es)
 | [], _ => rfl
 | e :: es, h => by
  have he := h e (qo ..)
  rw [wh, yU, bnd]
  have e1 : (if (zm m e.fTag).1.fLabel = 1 then (Zj e.fTrees 0).bind fun y2 => bnd (wv y2) fun r5 => some r5 else some false) = some (isZ m e) := by
   unfold isZ
   split
   · rename_i hl
     cases ht : e.fTrees with
     | nil => exact absurd ht he
     | cons a l =>
      rw [idx_t (Int.le_refl 0) (show (a :: l)[qB 0]? = some a from rfl), qf, bnd, hl]; rfl
   rename_i hl
   rw [decide_eq_false hl, Bool.false_and]
  rw [e1, qf, qf, XG fun a ha => h a (qp _ ha), qf]
  unfold zdel; rw [ut]
  cases isZ m e <;> rfl
def YU (m : GMessage) (one : GType → GRaw → GTree × Int) : List GRaw → List GEntry → List GRaw → GTree × Int
 | [], es, rest => (⟨3, 0, [], zdel m es, srt rest⟩, 0)
 | r :: q, es, rest =>
  if (zm m r.fTag).2 = true then
   (if (one (zm m r.fTag).1.fType r).2 = 0 then
    (if Xo r.fTag ((zm m r.fTag).1.fLabel = 3) es ≤ 64 then YU m one q (Za r.fTag ((zm m r.fTag).1.fLabel = 3) (one (zm m r.fTag).1.fType r).1 es) rest else (Zv, 4))
   else (Zv, (one (zm m r.fTag).1.fType r).2))
  else YU m one q es (rest ++ [r])
theorem checkField_tag {m : GMessage} {t : Int} (h : (zm m t).2 = true) : (zm m t).1.fTag = t ∧ (zm m t).1 ∈ m.fFields := by
 have key : ∀ (l : List GField) (i : Int), (zm.l4 t l i).2 = true → (zm.l4 t l i).1.fTag = t ∧ (zm.l4 t l i).1 ∈ l := by
  intro l
  induction l with
  | nil => intro i h; cases h
  | cons f l ih =>
   intro i h
   rw [zm.l4] at h ⊢
   split at h
   · rename_i hf
     rw [if_pos hf]; exact ⟨hf, qo ..⟩
   rename_i hf
   rw [if_neg hf]
   obtain ⟨h1, h2⟩ := ih _ h
   exact ⟨h1, qp _ h2⟩
 exact key m.fFields 0 h
theorem fldD_eq {self : GSchema → GType → GRaw → Int → Option (GTree × Int)} {s : GSchema} {m : GMessage} {deep : Int} {one : GType → GRaw → GTree × Int} :
 ∀ {l : List GRaw} {es : List GEntry} {rest : List GRaw}, (∀ r ∈ l, 1 ≤ r.fTag ∧ r.fTag ≤ 500) → (∀ r ∈ l, ∀ y, self s y r deep = some (one y r)) → es.Pairwise Yk → (∀ e ∈ es, (1 ≤ e.fTag ∧ e.fTag ≤ 500) ∧ e.fTrees ≠ [] ∧ e.fTrees.length ≤ 64) → es.length + l.length < 100000 → rest.length + l.length < 100000 →
 zy.l self s m deep l es rest = some (YU m one l es rest)
 | [], es, rest, _, _, _, he, hn, hn' => by
  rw [zy.l, xG (by simp only [qn] at hn; omega), qf, XG fun e h => (he e h).2.1, qf, sorted_eq (by simp only [qn] at hn'; omega), qf, YU]
 | r :: l, es, rest, ht, ho, hs, he, hn, hn' => by
  rw [qk] at hn hn'
  have hr := ht r (qo ..)
  have ht' : ∀ r ∈ l, 1 ≤ r.fTag ∧ r.fTag ≤ 500 := fun x hx => ht x (qp _ hx)
  have ho' : ∀ r ∈ l, ∀ y, self s y r deep = some (one y r) := fun x hx => ho x (qp _ hx)
  rw [zy.l, bnd, YU]
  by_cases hf : (zm m r.fTag).2 = true
  · obtain ⟨hft, _⟩ := checkField_tag hf
    rw [if_pos hf, if_pos hf, ho r (qo ..), qf]
    by_cases h0 : (one (zm m r.fTag).1.fType r).2 = 0
    · rw [if_pos h0, if_pos h0, decode_put_eq hs (fun e h => (he e h).1) (by rw [hft]; exact hr) (by omega) (fun e h => by have := (he e h).2.2; omega), qf, hft]
      by_cases hp : Xo r.fTag ((zm m r.fTag).1.fLabel = 3) es ≤ 64
      · rw [if_pos hp, if_pos (decide_eq_true hp)]
        refine fldD_eq (es := Za r.fTag ((zm m r.fTag).1.fLabel = 3) (one (zm m r.fTag).1.fType r).1 es) ht' ho' (Xj hs) ?_ (by have := putE_len (t := r.fTag) (rep := (zm m r.fTag).1.fLabel = 3) (x := (one (zm m r.fTag).1.fType r).1) (es := es); omega) (by omega)
        intro e h
        rcases putE_all h with h | ⟨h1, h2, h3⟩
        · exact he e h
        exact ⟨by rw [h1]; exact hr, h3, by omega⟩
      rw [if_neg hp, if_neg (by simpa using hp)]; rfl
    rw [if_neg h0, if_neg h0]; rfl
  rw [if_neg hf, if_neg hf, xG (by omega), qf]
  exact fldD_eq ht' ho' hs he (by omega) (by rw [qi, qG]; omega)
def msgOf (s : GSchema) (n : List UInt8) : GMessage := (zP s n).1
def oneD (msg : GMessage → List UInt8 → GTree × Int) (s : GSchema) (y : GType) (r : GRaw) : GTree × Int :=
 if (if y.fKind = 4 ∨ y.fKind = 5 ∨ y.fKind = 7 then r.fWire = 1 else r.fWire = 0) then
  (if y.fKind = 3 ∨ y.fKind = 6 then (if xj y r.fN = true then (⟨1, r.fN, [], [], []⟩, 0) else (Zv, 11))
  else if y.fKind = 4 then (if vaU r.fB = true then (⟨2, 0, r.fB, [], []⟩, 0) else (Zv, 9))
  else if y.fKind = 7 then msg (msgOf s y.fName) r.fB
  else (if r.fWire = 1 then ⟨2, 0, r.fB, [], []⟩ else ⟨1, r.fN, [], [], []⟩, 0))
 else (Zv, 8)
theorem oneD_eq {self : GSchema → GMessage → List UInt8 → Int → Option (GTree × Int)} {self2 : GSchema → GType → GRaw → Int → Option (GTree × Int)} {s : GSchema} {y : GType} {r : GRaw} {deep : Int} {msg : GMessage → List UInt8 → GTree × Int} (hw : r.fWire = 0 ∨ r.fWire = 1) (hb : r.fB.length ≤ 4096) (hd : deep < 1000) (hd' : 0 ≤ deep) (hs : self s (msgOf s y.fName) r.fB (deep + 1) = some (msg (msgOf s y.fName) r.fB)) :
 zL.body self self2 s y r deep = some (oneD msg s y r) := by
 have hv := runesV_eq (a := r.fB) (by omega)
 have ed : IntKind.i64.wrap (deep + 1) = deep + 1 := yF (by omega) (by omega)
 have hm : ∀ z : GTree × Int, some (z.1, z.2) = some z := fun z => rfl
 unfold zL.body zL.j2 zL.j26 zL.j3 zL.j6 zL.j4 oneD bnd
 unfold msgOf at hs ⊢
 simp only [YD (show r.fB.length ≤ 9223372036854775807 by omega), hv, ed, qf, hs]
 rcases hw with hw | hw <;> simp only [hw, reduceIte, reduceCtorEq, Int.reduceEq] <;>
  by_cases k4 : y.fKind = 4 <;> by_cases k5 : y.fKind = 5 <;> by_cases k7 : y.fKind = 7 <;> by_cases k3 : y.fKind = 3 <;> by_cases k6 : y.fKind = 6 <;>
  first
   | (exfalso; omega)
   | (simp only [k4, k5, k7, k3, k6, reduceIte, reduceCtorEq, Int.reduceEq, decide_true, decide_false, or_true, true_or, or_false, false_or, or_self, qT] <;> first | rfl | (cases xj y r.fN <;> rfl) | (cases vaU r.fB <;> rfl))
def getD (b : List UInt8) : List GRaw × Int := (y7 b).getD ([], 99)
theorem getD_eq (b : List UInt8) : y7 b = some (getD b) := by
 obtain ⟨r, e, _⟩ := X9 b
 unfold getD; rw [e]; rfl
theorem getD_ok {b : List UInt8} (h : (getD b).2 = 0) : b = xL (getD b).1 ∧ b.length ≤ 4096 ∧ ∀ x ∈ (getD b).1, ZD x := by
 obtain ⟨r, e, i, _⟩ := X9 b
 rw [getD_eq] at e
 obtain rfl := Option.some.inj e
 exact i h
theorem XT : ∀ l : List GRaw, 2 * l.length ≤ (xL l).length
 | [] => um _
 | r :: l => by
  rw [xx, qi, qk]
  have := XT l; have := rawB_pos r; omega
def YX (s : GSchema) : Nat → GMessage → List UInt8 → GTree × Int
 | 0, _, _ => (Zv, 10)
 | d + 1, m, b => if (getD b).2 = 0 then YU m (oneD (YX s d) s) (getD b).1 [] [] else (Zv, (getD b).2)
theorem Ye (s : GSchema) : ∀ (d k : Nat) (m : GMessage) (b : List UInt8) (deep : Int), d ≤ 10 → deep = 11 - d → 2 * d + 1 ≤ k → zy k s m b deep = some (YX s d m b)
 | d, 0, m, b, deep, _, _, h => by omega
 | 0, k + 1, m, b, deep, _, h, _ => by
  rw [zy, zy.body, if_pos (by omega)]; rfl
 | d + 1, k + 1, m, b, deep, h10, hd, hk => by
  rw [zy, zy.body, if_neg (by omega), getD_eq, qf, YX]
  by_cases h0 : (getD b).2 = 0
  · rw [if_pos h0, if_pos h0]
    obtain ⟨hb, hl, hok⟩ := getD_ok h0
    have hlen : (getD b).1.length < 100000 := by
     have := XT (getD b).1
     rw [← hb] at this; omega
    refine fldD_eq ?_ ?_ List.Pairwise.nil (fun _ h => by cases h) (by rw [qn]; omega) (by rw [qn]; omega)
    · intro r hr
      have := Ze (hok r hr).1
      exact ⟨this.1, this.2.1⟩
    intro r hr y
    obtain ⟨k', rfl⟩ : ∃ k', k = k' + 1 := ⟨k - 1, by omega⟩
    rw [zL]
    have hc := (Ze (hok r hr).1).2.2
    have hbl : r.fB.length ≤ 4096 := by
     rcases hc with ⟨_, hc⟩ | ⟨_, _, hc⟩
     · rw [hc]; decide
     exact hc
    refine oneD_eq (by rcases hc with hc | hc; exact Or.inl hc.1; exact Or.inr hc.1) hbl (by omega) (by omega) ?_
    exact Ye s d k' _ _ _ (by omega) (by omega) (by omega)
  rw [if_neg h0, if_neg h0]; rfl
theorem decode_eq {s : GSchema} {name b : List UInt8} (hc : zx s = some 0) (hm : (zP s name).2 = true) : yH s name b = some (YX s 10 (msgOf s name) b) := by
 rw [yH, hc, qf, if_pos rfl, bnd, hm, if_neg (by decide), Ye s 10 rounds _ b 1 (qq _) rfl (by have := yZ; omega), qf]; rfl
end
section
set_option maxRecDepth 4000
open AM
def maxD (f : GTree → Nat) : List GTree → Nat → Nat
 | [], d => d
 | x :: l, d => maxD f l (max d (f x))
theorem maxD_ge {f : GTree → Nat} : ∀ (l : List GTree) (d : Nat), d ≤ maxD f l d
 | [], d => qq _
 | x :: l, d => uu (Nat.le_max_left _ _) (maxD_ge l _)
theorem maxD_mem {f : GTree → Nat} {x : GTree} : ∀ {l : List GTree} {d : Nat}, x ∈ l → f x ≤ maxD f l d
 | y :: l, d, h => by
  rw [maxD]
  rcases qD.1 h with rfl | h
  · exact uu (Nat.le_max_right _ _) (maxD_ge l _)
  exact maxD_mem h
theorem maxD_le {f : GTree → Nat} {n : Nat} : ∀ {l : List GTree} {d : Nat}, d ≤ n → (∀ x ∈ l, f x ≤ n) → maxD f l d ≤ n
 | [], d, h, _ => h
 | x :: l, d, h, hl => maxD_le (l := l) (Nat.max_le.2 ⟨h, hl x (qo ..)⟩) fun y hy => hl y (qp _ hy)
theorem maxD_app (f : GTree → Nat) : ∀ (l m : List GTree) (d : Nat), maxD f (l ++ m) d = maxD f m (maxD f l d)
 | [], _, _ => rfl
 | x :: l, m, d => maxD_app f l m _
def kids (t : GTree) : List GTree := t.fEntries.flatMap GEntry.fTrees
def vbk : Nat → GTree → Nat
 | 0, _ => 0
 | m + 1, t => if t.fKind = 3 then maxD (vbk m) (kids t) 0 + 1 else 0
theorem depT_le : ∀ (m : Nat) (t : GTree), vbk m t ≤ m
 | 0, _ => qq _
 | m + 1, t => by
  rw [vbk]; split
  · exact Nat.succ_le_succ (maxD_le (um _) fun x _ => depT_le m x)
  exact um _
theorem deep_l20 {self : GTree → Int → Option Int} {m : Nat} (hm : m < 1000) (hs : ∀ x, self x (m : Int) = some ((vbk m x : Nat) : Int)) {x7 : Int} {rec10 : Int → Int → Option Int} : ∀ (l : List GTree) (i : Int) (d : Nat),
 zT.l20 self ((m + 1 : Nat) : Int) x7 rec10 l i (d : Int) = rec10 (x7 + 1) ((maxD (vbk m) l d : Nat) : Int)
 | [], i, d => rfl
 | x :: l, i, d => by
  rw [zT.l20, show IntKind.i64.wrap (((m + 1 : Nat) : Int) - 1) = (m : Int) by rw [yF (by omega) (by omega)]; omega, hs, qf, maxD]
  have e : (if (d : Int) < ((vbk m x : Nat) : Int) then ((vbk m x : Nat) : Int) else (d : Int)) = ((max d (vbk m x) : Nat) : Int) := by split <;> omega
  rw [e]; exact deep_l20 hm hs l _ _
theorem deep_l10 {self : GTree → Int → Option Int} {m : Nat} (hm : m < 1000) (hs : ∀ x, self x (m : Int) = some ((vbk m x : Nat) : Int)) : ∀ (l : List GEntry) (i : Int) (d : Nat), d ≤ 1000 →
 zT.l10 self ((m + 1 : Nat) : Int) l i (d : Int) = some ((maxD (vbk m) (l.flatMap GEntry.fTrees) d + 1 : Nat) : Int)
 | [], i, d, hd => by
  rw [zT.l10, yF (by omega) (by omega), un, maxD]; rfl
 | e :: l, i, d, hd => by
  rw [zT.l10, deep_l20 hm hs, deep_l10 hm hs l _ _ (maxD_le hd fun x _ => uu (depT_le m x) (by omega)), qP, maxD_app]
theorem deep_eq : ∀ (m k : Nat) (t : GTree), m < 1000 → m < k → zT k t (m : Int) = some ((vbk m t : Nat) : Int)
 | m, 0, t, _, h => by omega
 | 0, k + 1, t, _, _ => by
  rw [zT, zT.body, if_pos (by simp)]; rfl
 | m + 1, k + 1, t, hm, hk => by
  rw [zT, zT.body, vbk]
  by_cases h3 : t.fKind = 3
  · rw [if_neg (by simp only [h3, decide_true, qX, uK, decide_eq_true_eq]; omega), if_pos h3]
    exact deep_l10 (by omega) (fun x => deep_eq m k x (by omega) (by omega)) t.fEntries 0 0 (by omega)
  rw [if_pos (by simp [h3]), if_neg h3]; rfl
theorem Depth_eq (t : GTree) : xW t = some ((vbk 101 t : Nat) : Int) := by
 rw [xW, show (101 : Int) = ((101 : Nat) : Int) from rfl, deep_eq 101 rounds t (by omega) (by have := yZ; omega)]; rfl
def risB : List GRaw → Bool
 | a :: b :: l => decide (a.fTag ≤ b.fTag) && risB (b :: l)
 | _ => true
theorem risB_iff : ∀ {l : List GRaw}, risB l = true ↔ l.Pairwise TagLe
 | [] => by simp [risB]
 | [a] => by simp [risB]
 | a :: b :: l => by
  rw [risB, ql, decide_eq_true_eq, risB_iff, uj (a := a)]
  constructor
  · rintro ⟨h1, h2⟩
    refine ⟨?_, h2⟩
    intro c hc
    rcases qD.1 hc with rfl | hc
    · exact h1
    have := (uj.1 h2).1 c hc; unfold TagLe at *; omega
  rintro ⟨h1, h2⟩
  exact ⟨h1 b (qo ..), h2⟩
theorem rising_l {L : List GRaw} (hL : L.length < 4611686018427387904) : ∀ (k : Nat) (A : List GRaw) (a : GRaw) (B : List GRaw), L = A ++ a :: B → B.length < k → y1.l4 L k ((A.length + 1 : Nat) : Int) = some (risB (a :: B))
 | 0, _, _, _, _, h => by omega
 | k + 1, A, a, [], h, _ => by
  rw [y1.l4, if_neg (by rw [h, qi, qG]; omega)]; rfl
 | k + 1, A, a, b :: B, h, hk => by
  have hl : L.length = A.length + (B.length + 2) := by rw [h, qi, qk, qk]
  have e1 : Zj L ((A.length + 1 : Nat) : Int) = some b := by
   rw [h, show A ++ a :: b :: B = (A ++ [a]) ++ b :: B by rw [qr]; rfl]
   exact YS (by rw [qi, qG])
  have e2 : IntKind.i64.wrap (((A.length + 1 : Nat) : Int) - 1) = (A.length : Int) := by rw [yF (by omega) (by omega)]; omega
  have e3 : Zj L (A.length : Int) = some a := by rw [h]; exact YS rfl
  have e4 : IntKind.i64.wrap (((A.length + 1 : Nat) : Int) + 1) = (((A ++ [a]).length + 1 : Nat) : Int) := by rw [yF (by omega) (by omega), qi, qG]; omega
  rw [y1.l4, if_pos (by omega), e1, qf, e2, e3, qf, risB]
  by_cases hlt : b.fTag < a.fTag
  · rw [if_pos hlt, decide_eq_false (by omega)]; rfl
  rw [if_neg hlt, e4, rising_l hL k (A ++ [a]) b B (by rw [h, qr]; rfl) (by simpa using hk), decide_eq_true (by omega), uE]
theorem rising_eq {l : List GRaw} (h : l.length < 4611686018427387904) : y1 l = some (risB l) := by
 cases l with
 | nil => rfl
 | cons a l => exact rising_l h rounds [] a l rfl (by have := yZ; rw [qk] at h; omega)
def restB (t : GTree) : Bool := t.fRest.all (fun r => yw r && !(t.fEntries.any fun e => decide (e.fTag = r.fTag))) && risB t.fRest
theorem rest_l16 {x2 : Int} {rec4 : Int → Option Bool} {y : GRaw} : ∀ (l : List GEntry) (i : Int), yv.l16 x2 rec4 y l i = if (l.any fun e => decide (e.fTag = y.fTag)) = true then some false else rec4 (x2 + 1)
 | [], i => by rw [yv.l16]; rfl
 | e :: l, i => by
  rw [yv.l16, List.any_cons]
  by_cases h : e.fTag = y.fTag
  · rw [if_pos h, decide_eq_true h, Bool.true_or, if_pos rfl]
  rw [if_neg h, decide_eq_false h, uK, rest_l16]
theorem rest_l4 {t : GTree} (hr : t.fRest.length < 4611686018427387904) : ∀ (l : List GRaw) (i : Int), yv.l4 t l i = some (l.all (fun r => yw r && !(t.fEntries.any fun e => decide (e.fTag = r.fTag))) && risB t.fRest)
 | [], i => by rw [yv.l4, rising_eq hr]; rfl
 | r :: l, i => by
  rw [yv.l4, bnd, qZ]
  cases hc : yw r with
  | false => rfl
  | true =>
   rw [if_neg (by decide), rest_l16]
   cases ha : t.fEntries.any fun e => decide (e.fTag = r.fTag) with
   | true => rfl
   | false => rw [if_neg (by decide), rest_l4 hr l]; rfl
theorem rest_eq {t : GTree} (hr : t.fRest.length < 4611686018427387904) : yv t = some (restB t) := rest_l4 hr _ _
def entB (f : GTree → Bool) : Int → List GEntry → Bool
 | _, [] => true
 | last, e :: l => decide (last < e.fTag ∧ e.fTag ≤ 500 ∧ 1 ≤ e.fTrees.length ∧ e.fTrees.length ≤ 64) && (e.fTrees.all fun x => decide (x.fKind = (e.fTrees.headD Zv).fKind) && f x) && entB f e.fTag l
def leafB (t : GTree) : Bool :=
 if t.fKind = 1 then decide (t.fS = []) && decide ((qc t.fEntries : Int) = 0) && decide ((qc t.fRest : Int) = 0)
 else if t.fKind = 2 then decide (t.fN = 0) && decide ((qc t.fEntries : Int) = 0) && decide ((qc t.fRest : Int) = 0)
 else false
def wz : Nat → GTree → Bool
 | 0, t => leafB t
 | d + 1, t => if t.fKind = 3 then decide (t.fN = 0) && decide (t.fS = []) && entB (wz d) 0 t.fEntries && restB t else leafB t
def ownS (t : GTree) : Prop := In64 t.fN ∧ t.fRest.length ≤ 900000 ∧ ∀ r ∈ t.fRest, In64 r.fN
def szT : Nat → GTree → Prop
 | 0, t => ownS t
 | d + 1, t => ownS t ∧ ∀ x ∈ kids t, szT d x
theorem vbi {self : GTree → Option Bool} {f : GTree → Bool} {x3 : Int} {rec6 : Int → Int → Option Bool} {y : GEntry} (hy : 1 ≤ y.fTrees.length) : ∀ (l : List GTree) (i : Int), (∀ x ∈ l, self x = some (f x)) →
 zw.l18 self x3 rec6 y l i = if (l.all fun x => decide (x.fKind = (y.fTrees.headD Zv).fKind) && f x) = true then rec6 (x3 + 1) y.fTag else some false
 | [], i, _ => by rw [zw.l18]; rfl
 | x :: l, i, h => by
  have e1 : Zj y.fTrees 0 = some (y.fTrees.headD Zv) := by
   cases ht : y.fTrees with
   | nil => rw [ht] at hy; exact absurd hy (by decide)
   | cons a l => rfl
  rw [zw.l18, e1, qf, qZ]
  by_cases hk : x.fKind = (y.fTrees.headD Zv).fKind
  · rw [if_pos hk, h x (qo ..), qf, decide_eq_true hk, uE]
    cases f x with
    | false => rfl
    | true =>
     rw [zw.j25, if_neg (by decide), vbi hy l _ fun z hz => h z (qp _ hz), uE]
  rw [if_neg hk, decide_eq_false hk]; rfl
theorem entries_l6 {self : GTree → Option Bool} {f : GTree → Bool} : ∀ (l : List GEntry) (i last : Int), (∀ e ∈ l, ∀ x ∈ e.fTrees, self x = some (f x)) → zw.l6 self l i last = some (entB f last l)
 | [], i, last, _ => rfl
 | e :: l, i, last, h => by
  rw [zw.l6, entB]
  by_cases hc : last < e.fTag ∧ e.fTag ≤ 500 ∧ 1 ≤ e.fTrees.length ∧ e.fTrees.length ≤ 64
  · rw [if_neg (by simp only [qH, decide_eq_true_eq]; omega), vbi hc.2.2.1 e.fTrees 0 (h e (qo ..)), decide_eq_true hc, uE]
    cases ha : e.fTrees.all fun x => decide (x.fKind = (e.fTrees.headD Zv).fKind) && f x with
    | false => rfl
    | true => rw [if_pos rfl, entries_l6 l _ _ fun y hy => h y (qp _ hy), uE]
  rw [if_pos (by simp only [qH, decide_eq_true_eq]; omega), decide_eq_false hc]; rfl
theorem Y3 {t : GTree} {e : GEntry} {x : GTree} (he : e ∈ t.fEntries) (hx : x ∈ e.fTrees) : x ∈ kids t := List.mem_flatMap.2 ⟨e, he, hx⟩
theorem right_eq : ∀ (d m k : Nat) (t : GTree), d < m → vbk m t ≤ d → 2 * d < k → szT d t → yJ k t = some (wz d t)
 | d, m, 0, t, _, _, h, _ => by omega
 | 0, m + 1, k + 1, t, _, hd, _, hz => by
  have h3 : ¬ t.fKind = 3 := by
   intro h; rw [vbk, if_pos h] at hd; omega
  rw [yJ, yJ.body, wz, leafB, if_neg h3]
  split <;> first | rfl | (split <;> rfl)
 | d + 1, m + 1, k + 1, t, hm, hd, hk, hz => by
  rw [yJ, yJ.body, wz]
  by_cases h3 : t.fKind = 3
  · have hd' : maxD (vbk m) (kids t) 0 ≤ d := by rw [vbk, if_pos h3] at hd; omega
    obtain ⟨k', rfl⟩ : ∃ k', k = k' + 1 := ⟨k - 1, by omega⟩
    have he : zw (k' + 1) t = some (entB (wz d) 0 t.fEntries) := by
     rw [zw, zw.body]
     exact entries_l6 t.fEntries 0 0 fun e he x hx => right_eq d m k' x (by omega) (uu (maxD_mem (Y3 he hx)) hd') (by omega) (hz.2 x (Y3 he hx))
    rw [if_neg (by omega), if_neg (by omega), if_pos h3, if_pos h3, he, rest_eq (by have := hz.1.2.1; omega)]
    cases decide (t.fN = 0) && decide (t.fS = []) with
    | false => rfl
    | true => cases entB (wz d) 0 t.fEntries <;> rfl
  rw [if_neg h3, if_neg h3, leafB]
  split <;> first | rfl | (split <;> rfl)
def Yg (t : GTree) : Bool := decide (vbk 101 t ≤ 10) && wz 10 t
theorem check_eq {t : GTree} (hz : szT 10 t) : xX t = some (Yg t) := by
 rw [xX, Depth_eq, qf, Yg]
 by_cases h : vbk 101 t ≤ 10
 · rw [if_pos (by omega), right_eq 10 101 rounds t (by omega) h (by have := yZ; omega) hz, decide_eq_true h, uE]; rfl
 rw [if_neg (by omega), decide_eq_false h]; rfl
end
section
set_option maxRecDepth 4000
open AM
theorem in0 : In64 0 := ⟨by decide, by decide⟩
def vas (enc : GTree → Option (List UInt8)) (tag : Int) (x : GTree) : Option GRaw :=
 if x.fKind = 1 then some ⟨tag, 0, x.fN, []⟩
 else if x.fKind = 2 then (if 4096 < x.fS.length then none else some ⟨tag, 1, 0, x.fS⟩)
 else (enc x).bind fun b => some ⟨tag, 1, 0, b⟩
def rawL (enc : GTree → Option (List UInt8)) (tag : Int) : List GTree → Option (List GRaw)
 | [] => some []
 | x :: l => (vas enc tag x).bind fun r => (rawL enc tag l).bind fun m => some (r :: m)
def XM (enc : GTree → Option (List UInt8)) : List GEntry → Option (List GRaw)
 | [] => some []
 | e :: l => (rawL enc e.fTag e.fTrees).bind fun a => (XM enc l).bind fun m => some (a ++ m)
def putB (l : List GRaw) : Option (List UInt8) := if 4096 < (xL l).length then none else some (xL l)
def YW : Nat → GTree → Option (List UInt8)
 | 0, _ => none
 | d + 1, t => (XM (YW d) t.fEntries).bind fun L => putB (srt (t.fRest ++ L))
def Y8 : Nat → GTree → GValueValue
 | 0, t => if t.fKind = 1 then .num t.fN else if t.fKind = 2 then .str t.fS else .node [] t.fRest
 | d + 1, t => if t.fKind = 1 then .num t.fN else if t.fKind = 2 then .str t.fS else .node (t.fEntries.map fun e => ⟨e.fTag, e.fTrees.map (Y8 d)⟩) t.fRest
theorem made_l62 {self : GTree → Option GValueValue} {f : GTree → GValueValue} {t : GTree} {r12 : List GRaw} {y : GEntry} : ∀ (l : List GTree) (i : Int) (acc : List GValueValue), (∀ x ∈ l, self x = some (f x)) → acc.length + l.length ≤ 64 →
 zG.l62 self t r12 y l i acc = zG.l20 self t r12 rounds [⟨y.fTag, acc ++ l.map f⟩] 1
 | [], i, acc, _, _ => by
  rw [zG.l62, qy, qx, yF (by decide) (by decide)]; rfl
 | x :: l, i, acc, h, hl => by
  rw [qk] at hl
  rw [zG.l62, h x (qo ..), qf, xG (by omega), qf, made_l62 l _ _ (fun z hz => h z (qp _ hz)) (by rw [qi, qG]; omega), qr]; rfl
theorem made_l35 {self : GTree → Option GValueValue} {f : GTree → GValueValue} {l14 : List GValueEntry} {x16 : Int} {rec20 : List GValueEntry → Int → Option GValueValue} {y : GEntry} (hl14 : l14.length ≤ 1000) : ∀ (l : List GTree) (i : Int) (acc : List GValueValue), (∀ x ∈ l, self x = some (f x)) → acc.length + l.length ≤ 64 →
 zG.l35 self l14 x16 rec20 y l i acc = rec20 (l14 ++ [⟨y.fTag, acc ++ l.map f⟩]) (IntKind.i64.wrap (x16 + 1))
 | [], i, acc, _, _ => by
  rw [zG.l35, qy, qx, xG (by omega), qf]
 | x :: l, i, acc, h, hl => by
  rw [qk] at hl
  rw [zG.l35, h x (qo ..), qf, xG (by omega), qf, made_l35 hl14 l _ _ (fun z hz => h z (qp _ hz)) (by rw [qi, qG]; omega), qr]; rfl
def entV (f : GTree → GValueValue) (e : GEntry) : GValueEntry := ⟨e.fTag, e.fTrees.map f⟩
theorem made_l20 {self : GTree → Option GValueValue} {f : GTree → GValueValue} {t : GTree} {r12 : List GRaw} (hn : t.fEntries.length ≤ 1000) (hs : ∀ e ∈ t.fEntries, e.fTrees.length ≤ 64 ∧ ∀ x ∈ e.fTrees, self x = some (f x)) : ∀ (k : Nat) (A B : List GEntry), t.fEntries = A ++ B → B.length < k →
 zG.l20 self t r12 k (A.map (entV f)) (A.length : Int) = some (.node (t.fEntries.map (entV f)) r12)
 | 0, A, B, _, h => by omega
 | k + 1, A, [], h, _ => by
  rw [qx] at h
  rw [zG.l20, if_neg (by rw [h]; omega), h]
 | k + 1, A, e :: B, h, hk => by
  rw [qk] at hk
  have hl : t.fEntries.length = A.length + (B.length + 1) := by rw [h, qi, qk]
  have he := hs e (by rw [h]; exact uq _ (qo ..))
  have ei : Zj t.fEntries (A.length : Int) = some e := by rw [h]; exact YS rfl
  rw [zG.l20, if_pos (by omega), ei, qf, made_l35 (f := f) (by rw [qV]; omega) e.fTrees 0 [] he.2 (by rw [qn]; omega), yF (by omega) (by omega)]
  have := made_l20 (self := self) (f := f) (r12 := r12) hn hs k (A ++ [e]) B (by rw [h, qr]; rfl) (by omega)
  rw [qR, qi, qG] at this
  rw [show (A.length : Int) + 1 = ((A.length + 1 : Nat) : Int) by omega]
  exact this
theorem Yt {f : GTree → Bool} : ∀ {l : List GEntry} {last : Int}, entB f last l = true → ∀ e ∈ l, last < e.fTag ∧ e.fTag ≤ 500 ∧ 1 ≤ e.fTrees.length ∧ e.fTrees.length ≤ 64 ∧ (∀ x ∈ e.fTrees, x.fKind = (e.fTrees.headD Zv).fKind ∧ f x = true)
 | [], _, _, e, he => by cases he
 | a :: l, last, h, e, he => by
  rw [entB, ql, ql, decide_eq_true_eq] at h
  rcases qD.1 he with rfl | he
  · refine ⟨h.1.1.1, h.1.1.2.1, h.1.1.2.2.1, h.1.1.2.2.2, fun x hx => ?_⟩
    have := q3.1 h.1.2 x hx
    rw [ql, decide_eq_true_eq] at this
    exact this
  obtain ⟨h1, h2⟩ := Yt h.2 e he
  exact ⟨by omega, h2⟩
theorem Ys {f : GTree → Bool} : ∀ {l : List GEntry} {last : Int}, entB f last l = true → l.Pairwise Yk
 | [], _, _ => List.Pairwise.nil
 | a :: l, last, h => by
  rw [entB, ql, ql] at h
  rw [uj]
  exact ⟨fun e he => (Yt h.2 e he).1, Ys h.2⟩
theorem sorted_len {n : Nat} : ∀ {l : List GEntry} {lo : Int}, l.Pairwise Yk → (∀ e ∈ l, lo < e.fTag ∧ e.fTag ≤ lo + n) → l.length ≤ n
 | [], _, _, _ => um _
 | a :: l, lo, h, hl => by
  rw [uj] at h
  have ha := hl a (qo ..)
  cases n with
  | zero => omega
  | succ n =>
   rw [qk]
   refine Nat.succ_le_succ (sorted_len (n := n) (lo := lo + 1) h.2 fun e he => ?_)
   have h1 := h.1 e he
   have h2 := hl e (qp _ he)
   unfold Yk at h1; omega
theorem vaF {d : Nat} {t : GTree} (h : wz (d + 1) t = true) (h3 : t.fKind = 3) : t.fEntries.length ≤ 500 ∧ entB (wz d) 0 t.fEntries = true ∧ restB t = true ∧ t.fN = 0 ∧ t.fS = [] := by
 rw [wz, if_pos h3] at h
 simp only [ql, decide_eq_true_eq] at h
 refine ⟨?_, h.1.2, h.2, h.1.1.1, h.1.1.2⟩
 exact sorted_len (n := 500) (lo := 0) (Ys h.1.2) fun e he => by
  have := Yt h.1.2 e he; omega
theorem Xy {t : GTree} (h : leafB t = true) : t.fKind = 1 ∨ t.fKind = 2 := by
 unfold leafB at h
 split at h
 · exact Or.inl ‹_›
 split at h
 · exact Or.inr ‹_›
 cases h
theorem XR {d : Nat} {t : GTree} (h : wz d t = true) : t.fKind = 1 ∨ t.fKind = 2 ∨ t.fKind = 3 := by
 cases d with
 | zero => rcases Xy h with h | h; exact Or.inl h; exact Or.inr (Or.inl h)
 | succ d =>
  rw [wz] at h
  split at h
  · exact Or.inr (Or.inr ‹_›)
  rcases Xy h with h | h; exact Or.inl h; exact Or.inr (Or.inl h)
theorem made_eq : ∀ (d k : Nat) (t : GTree), d < k → wz d t = true → szT d t → zG k t = some (Y8 d t)
 | d, 0, t, h, _, _ => by omega
 | 0, k + 1, t, _, hr, _ => by
  rw [zG, zG.body, Y8]
  rcases Xy hr with h | h
  · rw [if_pos h, if_pos h]; rfl
  rw [if_neg (by omega), if_pos h, if_neg (by omega), if_pos h]; rfl
 | d + 1, k + 1, t, hk, hr, hz => by
  rw [zG, zG.body, Y8]
  by_cases h1 : t.fKind = 1
  · rw [if_pos h1, if_pos h1]; rfl
  by_cases h2 : t.fKind = 2
  · rw [if_neg h1, if_pos h2, if_neg h1, if_pos h2]; rfl
  have h3 : t.fKind = 3 := by rcases XR hr with h | h | h <;> omega
  obtain ⟨hl, he, _, _, _⟩ := vaF hr h3
  have hs : ∀ e ∈ t.fEntries, e.fTrees.length ≤ 64 ∧ ∀ x ∈ e.fTrees, zG k x = some (Y8 d x) := fun e hm => by
   have := Yt he e hm
   exact ⟨this.2.2.2.1, fun x hx => made_eq d k x (by omega) (this.2.2.2.2 x hx).2 (hz.2 x (Y3 hm hx))⟩
  rw [if_neg h1, if_neg h2, if_neg h1, if_neg h2, yB, xG (by have := hz.1.2.1; omega), qf, qf]
  cases hE : t.fEntries with
  | nil => rfl
  | cons a E =>
   rw [if_pos (by rw [qk]; omega)]
   have ha := hs a (by rw [hE]; exact qo ..)
   rw [idx_t (Int.le_refl 0) (show (a :: E)[qB 0]? = some a from rfl), qf, made_l62 (f := Y8 d) a.fTrees 0 [] ha.2 (by rw [qn]; omega)]
   have := made_l20 (self := zG k) (f := Y8 d) (r12 := t.fRest) (by omega) hs rounds [a] E (by rw [hE]; rfl) (by have := yZ; rw [hE, qk] at hl; omega)
   rw [hE] at this
   exact this
theorem of_eq {t : GTree} (hz : szT 10 t) : Zi t = some (if Yg t = true then (Y8 10 t, true) else (.nil, false)) := by
 rw [Zi, check_eq hz, qf]
 by_cases h : Yg t = true
 · rw [h]
   have hr : wz 10 t = true := by unfold Yg at h; rw [ql] at h; exact h.2
   rw [if_neg (by decide), made_eq 10 rounds t (by have := yZ; omega) hr hz]; rfl
 rw [if_pos (by simpa using h), if_neg h]
theorem tags_l8 : ∀ (l : List GValueEntry) (i : Int) (acc : List Int), acc.length + l.length ≤ 1000 → zW.l8 l i acc = some (acc ++ l.map GValueEntry.ftag)
 | [], i, acc, _ => by rw [zW.l8, qy, qx]
 | e :: l, i, acc, h => by
  rw [qk] at h
  rw [zW.l8, xG (by omega), qf, tags_l8 l _ _ (by rw [qi, qG]; omega), qr]; rfl
theorem get_l4 {f : GTree → GValueValue} {e : GEntry} {B : List GEntry} (he : e.fTrees.length ≤ 64) : ∀ (A : List GEntry) (i : Int), (∀ a ∈ A, a.fTag ≠ e.fTag) → yk.l4 e.fTag ((A ++ e :: B).map (entV f)) i = some (e.fTrees.map f)
 | [], i, _ => by
  rw [qA, qM, yk.l4, if_pos (show (entV f e).ftag = e.fTag from rfl), show (entV f e).fl = e.fTrees.map f from rfl, xQ, xG (by rw [qV]; omega)]; rfl
 | a :: A, i, h => by
  rw [qC, qM, yk.l4, if_neg (show ¬ (entV f a).ftag = e.fTag from h a (qo ..))]
  exact get_l4 he A _ fun b hb => h b (qp _ hb)
theorem rawL_len {enc : GTree → Option (List UInt8)} {tag : Int} : ∀ {l : List GTree} {m : List GRaw}, rawL enc tag l = some m → m.length = l.length
 | [], m, h => by cases h; rfl
 | x :: l, m, h => by
  obtain ⟨r, _, h⟩ := bind_some h
  obtain ⟨m', h1, h⟩ := bind_some h
  cases h
  rw [qk, qk, rawL_len h1]
def va3 (o : Option (List GRaw)) (k : List GRaw → Option (List GRaw × Int)) : Option (List GRaw × Int) :=
 match o with
 | some m => k m
 | none => some ([], 4)
theorem raws_l24 {selfR : Int → GValueValue → Option (GRaw × Int)} {f : GTree → GValueValue} {enc : GTree → Option (List UInt8)} {x6 : Int} {rec10 : Int → List GRaw → Option (List GRaw × Int)} {tag : Int} : ∀ (l : List GTree) (i : Int) (acc : List GRaw), (∀ x ∈ l, selfR tag (f x) = some (match vas enc tag x with | some r => (r, 0) | none => (⟨0, 0, 0, []⟩, 4))) → acc.length + l.length < 3518437208882 →
 zN.l24 selfR x6 rec10 tag (l.map f) i acc = va3 (rawL enc tag l) fun m => rec10 (x6 + 1) (acc ++ m)
 | [], i, acc, _, _ => by rw [qy, zN.l24, rawL, va3, qx]
 | x :: l, i, acc, h, hl => by
  rw [qk] at hl
  rw [qM, zN.l24, h x (qo ..), qf, rawL]
  cases hx : vas enc tag x with
  | none => rfl
  | some r =>
   dsimp only
   rw [if_pos rfl, xG (by omega), qf, raws_l24 l _ _ (fun z hz => h z (qp _ hz)) (by rw [qi, qG]; omega), qf]
   cases rawL enc tag l with
   | none => rfl
   | some m => simp only [va3, qf, qr, qC, qA]
theorem raws_l10 {selfR : Int → GValueValue → Option (GRaw × Int)} {f : GTree → GValueValue} {enc : GTree → Option (List UInt8)} {E : List GEntry} {rest : List GRaw} (hs : E.Pairwise Yk) (ht : ∀ e ∈ E, e.fTrees.length ≤ 64 ∧ ∀ x ∈ e.fTrees, selfR e.fTag (f x) = some (match vas enc e.fTag x with | some r => (r, 0) | none => (⟨0, 0, 0, []⟩, 4))) (hn : E.length ≤ 500) :
 ∀ (B A : List GEntry) (i : Int) (acc : List GRaw), E = A ++ B → acc.length ≤ 900000 + 64 * A.length → zN.l10 selfR ⟨E.map (entV f), rest⟩ (B.map GEntry.fTag) i acc = va3 (XM enc B) fun m => some (srt (acc ++ m), 0)
 | [], A, i, acc, h, ha => by
  have hl : E.length = A.length := by rw [h, qx]
  rw [qy, zN.l10, sorted_eq (by omega), XM, va3, qx]; rfl
 | e :: B, A, i, acc, h, ha => by
  have hl : E.length = A.length + (B.length + 1) := by rw [h, qi, qk]
  have he := ht e (by rw [h]; exact uq _ (qo ..))
  have hA : ∀ a ∈ A, a.fTag ≠ e.fTag := fun a hm => by
   rw [h] at hs
   have := (List.pairwise_append.1 hs).2.2 a hm e (qo ..)
   unfold Yk at this; omega
  have hg : yk ⟨E.map (entV f), rest⟩ e.fTag = some (e.fTrees.map f) := by
   rw [yk, h]; exact get_l4 he.1 A 0 hA
  rw [qM, zN.l10, hg, qf, raws_l24 (enc := enc) e.fTrees 0 acc he.2 (by omega), XM]
  cases hL : rawL enc e.fTag e.fTrees with
  | none => rfl
  | some m =>
   have hm := rawL_len hL
   rw [va3, raws_l10 hs ht hn B (A ++ [e]) _ _ (by rw [h, qr]; rfl) (by rw [qi, qi, qG]; omega), qf]
   cases XM enc B with
   | none => rfl
   | some m' => simp only [va3, qf, qr]
end
section
set_option maxRecDepth 4000
open AM
theorem putB_some {l : List GRaw} {b : List UInt8} (h : putB l = some b) : b = xL l ∧ b.length ≤ 4096 := by
 unfold putB at h
 split at h
 · cases h
 cases h; exact ⟨rfl, by omega⟩
theorem encT_le {d : Nat} {t : GTree} {b : List UInt8} (h : YW d t = some b) : b.length ≤ 4096 := by
 cases d with
 | zero => cases h
 | succ d =>
  rw [YW] at h
  obtain ⟨L, _, h⟩ := bind_some h
  exact (putB_some h).2
theorem rawT_ok {d : Nat} {tag : Int} {x : GTree} {r : GRaw} (h1 : 1 ≤ tag) (h2 : tag ≤ 500) (hx : In64 x.fN) (h : vas (YW d) tag x = some r) : ZD r ∧ r.fTag = tag := by
 unfold vas at h
 split at h
 · cases h; exact ⟨⟨check_num h1 h2, hx⟩, rfl⟩
 split at h
 · split at h
   · cases h
   cases h; exact ⟨⟨X6 h1 h2 (by omega), in0⟩, rfl⟩
 obtain ⟨b, hb, h⟩ := bind_some h
 cases h; exact ⟨⟨X6 h1 h2 (encT_le hb), in0⟩, rfl⟩
theorem rawL_ok {d : Nat} {tag : Int} (h1 : 1 ≤ tag) (h2 : tag ≤ 500) : ∀ {l : List GTree} {m : List GRaw}, (∀ x ∈ l, In64 x.fN) → rawL (YW d) tag l = some m → ∀ r ∈ m, ZD r ∧ r.fTag = tag
 | [], m, _, h, r, hr => by cases h; cases hr
 | x :: l, m, hx, h, r, hr => by
  obtain ⟨a, ha, h⟩ := bind_some h
  obtain ⟨m', hm, h⟩ := bind_some h
  cases h
  rcases qD.1 hr with rfl | hr
  · exact rawT_ok h1 h2 (hx x (qo ..)) ha
  exact rawL_ok h1 h2 (fun z hz => hx z (qp _ hz)) hm r hr
theorem rawE_ok {d : Nat} : ∀ {l : List GEntry} {m : List GRaw}, (∀ e ∈ l, 1 ≤ e.fTag ∧ e.fTag ≤ 500 ∧ ∀ x ∈ e.fTrees, In64 x.fN) → XM (YW d) l = some m → ∀ r ∈ m, ZD r ∧ ∃ e ∈ l, r.fTag = e.fTag
 | [], m, _, h, r, hr => by cases h; cases hr
 | e :: l, m, hx, h, r, hr => by
  obtain ⟨a, ha, h⟩ := bind_some h
  obtain ⟨m', hm, h⟩ := bind_some h
  cases h
  have he := hx e (qo ..)
  rcases uC.1 hr with hr | hr
  · have := rawL_ok he.1 he.2.1 he.2.2 ha r hr
    exact ⟨this.1, e, qo .., this.2⟩
  obtain ⟨h1, e', h2, h3⟩ := rawE_ok (fun z hz => hx z (qp _ hz)) hm r hr
  exact ⟨h1, e', qp _ h2, h3⟩
theorem szT_own {d : Nat} {t : GTree} (h : szT d t) : ownS t := by
 cases d with
 | zero => exact h
 | succ d => exact h.1
theorem restB_mem {t : GTree} (h : restB t = true) : (∀ r ∈ t.fRest, yw r = true ∧ ∀ e ∈ t.fEntries, e.fTag ≠ r.fTag) ∧ t.fRest.Pairwise TagLe := by
 unfold restB at h
 rw [ql] at h
 refine ⟨fun r hr => ?_, risB_iff.1 h.2⟩
 have := q3.1 h.1 r hr
 rw [ql, uw] at this
 refine ⟨this.1, fun e he hc => ?_⟩
 have h2 := List.any_eq_false.1 this.2 e he
 exact h2 (decide_eq_true hc)
theorem raws_ok {d : Nat} {t : GTree} {L : List GRaw} (hr : wz (d + 1) t = true) (h3 : t.fKind = 3) (hz : szT (d + 1) t) (hL : XM (YW d) t.fEntries = some L) : ∀ r ∈ srt (t.fRest ++ L), ZD r := by
 obtain ⟨_, he, hb, _, _⟩ := vaF hr h3
 intro r hm
 rw [srt_mem] at hm
 rcases uC.1 hm with hm | hm
 · exact ⟨((restB_mem hb).1 r hm).1, hz.1.2.2 r hm⟩
 exact (rawE_ok (fun e hm => by
  have := Yt he e hm
  exact ⟨by omega, this.2.1, fun x hx => (szT_own (hz.2 x (Y3 hm hx))).1⟩) hL r hm).1
def orBad (o : Option (List UInt8)) : List UInt8 × Int :=
 match o with
 | some b => (b, 0)
 | none => ([], 4)
theorem va1 {l : List GRaw} (h : ∀ r ∈ l, ZD r) : zZ l = some (orBad (putB l)) := by
 rw [putAll_eq fun r hr => (h r hr).2, if_pos (q3.2 fun r hr => (h r hr).1), putB]
 split
 · rfl
 rfl
theorem tags_eq {f : GTree → GValueValue} {E : List GEntry} {rest : List GRaw} (h : E.length ≤ 500) : zW ⟨E.map (entV f), rest⟩ = some (E.map GEntry.fTag) := by
 rw [zW]
 have := tags_l8 (E.map (entV f)) 0 [] (by rw [qn, qV]; omega)
 rw [this, qA, List.map_map]; rfl
theorem raws_eq {selfB : GValueNode → Option (List UInt8 × Int)} {selfR : Int → GValueValue → Option (GRaw × Int)} {selfS : GValueNode → Option (List GRaw × Int)} {f : GTree → GValueValue} {enc : GTree → Option (List UInt8)} {E : List GEntry} {rest : List GRaw} (hs : E.Pairwise Yk) (ht : ∀ e ∈ E, e.fTrees.length ≤ 64 ∧ ∀ x ∈ e.fTrees, selfR e.fTag (f x) = some (match vas enc e.fTag x with | some r => (r, 0) | none => (⟨0, 0, 0, []⟩, 4))) (hn : E.length ≤ 500) (hr : rest.length ≤ 900000) :
 zN.body selfB selfR selfS ⟨E.map (entV f), rest⟩ = va3 (XM enc E) fun m => some (srt (rest ++ m), 0) := by
 rw [zN.body, tags_eq hn, wb, yB, xG (by dsimp only; omega), qf, qf, qf, qf]
 exact raws_l10 hs ht hn E [] 0 rest rfl (by rw [qn]; omega)
theorem bytes_eq : ∀ (d k : Nat) (t : GTree) (es : List GValueEntry) (rs : List GRaw), 3 * d ≤ k → wz d t = true → t.fKind = 3 → szT d t → Y8 d t = .node es rs → yR k ⟨es, rs⟩ = some (orBad (YW d t))
 | 0, k, t, es, rs, _, hr, h3, _, _ => by
  rcases Xy hr with h | h <;> omega
 | d + 1, k, t, es, rs, hk, hr, h3, hz, hv => by
  obtain ⟨k', rfl⟩ : ∃ k', k = k' + 3 := ⟨k - 3, by omega⟩
  obtain ⟨hl, he, hb, _, _⟩ := vaF hr h3
  rw [Y8, if_neg (by omega), if_neg (by omega)] at hv
  cases hv
  have hs : ∀ e ∈ t.fEntries, e.fTrees.length ≤ 64 ∧ ∀ x ∈ e.fTrees, yx (k' + 1) e.fTag (Y8 d x) = some (match vas (YW d) e.fTag x with | some r => (r, 0) | none => (⟨0, 0, 0, []⟩, 4)) := by
   intro e hm
   have h1 := Yt he e hm
   refine ⟨h1.2.2.2.1, fun x hx => ?_⟩
   have hrx := (h1.2.2.2.2 x hx).2
   have hzx := hz.2 x (Y3 hm hx)
   rw [yx, yx.body, vas]
   rcases XR hrx with h | h | h
   · have hv : Y8 d x = .num x.fN := by cases d <;> rw [Y8, if_pos h]
     rw [hv, if_pos h]; rfl
   · have hv : Y8 d x = .str x.fS := by cases d <;> rw [Y8, if_neg (by omega), if_pos h]
     rw [hv, if_neg (by omega), if_pos h, show xA (.str x.fS) = some (.str x.fS) from rfl, qf]
     dsimp only
     rw [yx.j3]
     by_cases hc : 4096 < x.fS.length
     · rw [if_pos hc, if_pos (by dsimp only; omega)]
     rw [if_neg hc, if_neg (by dsimp only; omega)]
   have h1' : ¬ x.fKind = 1 := by omega
   have h2' : ¬ x.fKind = 2 := by omega
   obtain ⟨es, rs, hv⟩ : ∃ es rs, Y8 d x = .node es rs := by cases d <;> exact ⟨_, _, by rw [Y8, if_neg h1', if_neg h2']⟩
   rw [hv, if_neg h1', if_neg h2', show xA (.node es rs) = some (.node es rs) from rfl, qf]
   dsimp only
   rw [bytes_eq d k' x es rs (by omega) hrx h hzx hv, qf]
   cases hx' : YW d x with
   | none => rfl
   | some b =>
    have hbl := encT_le hx'
    rw [orBad]; dsimp only
    rw [if_pos rfl, yx.j3, if_neg (by dsimp only; omega), qf]
  have hR : zN (k' + 2) ⟨t.fEntries.map fun e => ⟨e.fTag, e.fTrees.map (Y8 d)⟩, t.fRest⟩ = va3 (XM (YW d) t.fEntries) fun m => some (srt (t.fRest ++ m), 0) := by
   rw [zN]
   exact raws_eq (f := Y8 d) (Ys he) hs hl hz.1.2.1
  rw [yR, yR.body, hR, YW]
  cases hL : XM (YW d) t.fEntries with
  | none => rfl
  | some L =>
   rw [va3, qf]; dsimp only
   rw [if_pos rfl, va1 (raws_ok hr h3 hz hL), qf, qf]
theorem rawE_eq {d k : Nat} {t : GTree} (hk : 3 * d + 2 ≤ k) (hr : wz (d + 1) t = true) (h3 : t.fKind = 3) (hz : szT (d + 1) t) : zN k ⟨t.fEntries.map (entV (Y8 d)), t.fRest⟩ = va3 (XM (YW d) t.fEntries) fun m => some (srt (t.fRest ++ m), 0) := by
 obtain ⟨k', rfl⟩ : ∃ k', k = k' + 2 := ⟨k - 2, by omega⟩
 obtain ⟨hl, he, hb, _, _⟩ := vaF hr h3
 rw [zN]
 refine raws_eq (f := Y8 d) (Ys he) ?_ hl hz.1.2.1
 intro e hm
 have h1 := Yt he e hm
 refine ⟨h1.2.2.2.1, fun x hx => ?_⟩
 have hrx := (h1.2.2.2.2 x hx).2
 have hzx := hz.2 x (Y3 hm hx)
 rw [yx, yx.body, vas]
 rcases XR hrx with h | h | h
 · have hv : Y8 d x = .num x.fN := by cases d <;> rw [Y8, if_pos h]
   rw [hv, if_pos h]; rfl
 · have hv : Y8 d x = .str x.fS := by cases d <;> rw [Y8, if_neg (by omega), if_pos h]
   rw [hv, if_neg (by omega), if_pos h, show xA (.str x.fS) = some (.str x.fS) from rfl, qf]
   dsimp only
   rw [yx.j3]
   by_cases hc : 4096 < x.fS.length
   · rw [if_pos hc, if_pos (by dsimp only; omega)]
   rw [if_neg hc, if_neg (by dsimp only; omega)]
 have h1' : ¬ x.fKind = 1 := by omega
 have h2' : ¬ x.fKind = 2 := by omega
 obtain ⟨es, rs, hv⟩ : ∃ es rs, Y8 d x = .node es rs := by cases d <;> exact ⟨_, _, by rw [Y8, if_neg h1', if_neg h2']⟩
 rw [hv, if_neg h1', if_neg h2', show xA (.node es rs) = some (.node es rs) from rfl, qf]
 dsimp only
 rw [bytes_eq d k' x es rs (by omega) hrx h hzx hv, qf]
 cases hx' : YW d x with
 | none => rfl
 | some b =>
  have hbl := encT_le hx'
  rw [orBad]; dsimp only
  rw [if_pos rfl, yx.j3, if_neg (by dsimp only; omega), qf]
theorem vbm {t : GTree} (h : Yg t = true) : wz 10 t = true ∧ vbk 101 t ≤ 10 := by
 unfold Yg at h
 rw [ql, decide_eq_true_eq] at h
 exact ⟨h.2, h.1⟩
theorem Raws_eq {t : GTree} (hz : szT 10 t) : xZ t = some (if Yg t = true ∧ t.fKind = 3 then (match XM (YW 9) t.fEntries with | some L => (srt (t.fRest ++ L), (0 : Int)) | none => ([], 4)) else ([], 1)) := by
 rw [xZ, of_eq hz, qf]
 by_cases hc : Yg t = true
 · rw [if_pos hc]
   by_cases h3 : t.fKind = 3
   · rw [if_neg (by rw [decide_eq_true h3]; exact uJ), if_pos ⟨hc, h3⟩]
     have hv : Y8 10 t = .node (t.fEntries.map (entV (Y8 9))) t.fRest := by rw [Y8, if_neg (by omega), if_neg (by omega)]; rfl
     rw [hv, show yu (.node (t.fEntries.map (entV (Y8 9))) t.fRest) = some ⟨t.fEntries.map (entV (Y8 9)), t.fRest⟩ from rfl, qf, rawE_eq (d := 9) (by have := yZ; omega) (vbm hc).1 h3 hz]
     cases XM (YW 9) t.fEntries <;> rfl
   rw [if_pos (by rw [decide_eq_false h3]; rfl), if_neg (fun h => h3 h.2)]
 rw [if_neg hc, if_pos (by rfl), if_neg (fun h => hc h.1)]
theorem Encode_eq {t : GTree} (hz : szT 10 t) : xo t = some (if Yg t = true ∧ t.fKind = 3 then orBad (YW 10 t) else ([], 1)) := by
 rw [xo, Raws_eq hz, qf]
 by_cases hc : Yg t = true ∧ t.fKind = 3
 · rw [if_pos hc, if_pos hc, YW]
   cases hL : XM (YW 9) t.fEntries with
   | none => rfl
   | some L =>
    dsimp only
    rw [if_pos rfl, va1 (raws_ok (vbm hc.1).1 hc.2 hz hL), qf, qf]
 rw [if_neg hc, if_neg hc]; rfl
end
section
set_option maxRecDepth 4000
open AM

end
section
set_option maxRecDepth 4000
open AM

end
section
set_option maxRecDepth 4000
open AM
theorem count_l (a : List UInt8) : ∀ (k p : Nat) (x : Int), 0 < k → a.length < p + k → ∃ v, yA.l9 a k p x = some v
 | 0, p, x, h0, hk => by omega
 | k + 1, p, x, _, hk => by
  have hd := ZK a p
  rw [yA.l9]
  split
  · exact count_l a k _ _ (by omega) (by omega)
  exact ⟨_, rfl⟩
theorem count_t {a : List UInt8} (h : a.length ≤ 9223372036854775807) : ∃ v, yA a = some v := by
 rw [yA, runesV_eq h, qf]
 split
 · exact ⟨_, rfl⟩
 exact count_l a rounds 0 0 (by have := yZ; omega) (by have := yZ; omega)
theorem name_l (a : List UInt8) : ∀ (k p : Nat), 0 < k → a.length < p + k → ∃ v, yo.l11 a k p = some v
 | 0, p, h0, hk => by omega
 | k + 1, p, _, hk => by
  have hd := ZK a p
  rw [yo.l11]
  split
  · obtain ⟨v, e⟩ := name_l a k (p + (ZQ a p).2) (by omega) (by omega)
    rw [e]
    unfold bnd
    dsimp only
    repeat' split
    all_goals exact ⟨_, rfl⟩
  exact ⟨_, rfl⟩
def nameV (a : List UInt8) : Bool := (yo a).getD false
def nmOk (a : List UInt8) : Prop := a.length ≤ 140737488351232
theorem nameV_eq {a : List UInt8} (h : nmOk a) : yo a = some (nameV a) := by
 unfold nmOk at h
 have : ∃ v, yo a = some v := by
  obtain ⟨v, e⟩ := count_t (a := a) (by omega)
  rw [yo, e, qf]
  obtain ⟨w, ew⟩ := name_l a rounds 0 (by have := yZ; omega) (by have := yZ; omega)
  rw [ew]
  unfold bnd
  dsimp only
  repeat' split
  all_goals exact ⟨_, rfl⟩
 obtain ⟨v, e⟩ := this
 unfold nameV; rw [e]; rfl
theorem vaP {m : List (List UInt8 × Bool)} {a : List UInt8} (h : nmOk a) : ∃ r, z7 m a = some r := by
 rw [z7, nameV_eq h, qf]
 split <;> exact ⟨_, rfl⟩
def nmM (m : GMessage) : Prop := nmOk m.fName ∧ ∀ f ∈ m.fFields, nmOk f.fName
def nmE (e : GEnumeration) : Prop := nmOk e.fName ∧ ∀ v ∈ e.fValues, nmOk v.fName
def nmS (s : GSchema) : Prop := nmOk s.fName ∧ (∀ m ∈ s.fMessages, nmM m) ∧ (∀ e ∈ s.fEnums, nmE e) ∧ ∀ x ∈ s.fMethods, nmOk x.fName
theorem msg_l21 {s : GSchema} {r2 : Bool × List (List UInt8 × Bool)} : ∀ (l : List GField) (i : Int) (a : List (Int × Bool)) (b : List (List UInt8 × Bool)), (∀ f ∈ l, nmOk f.fName) → ∃ r, zO.l21 s r2 l i a b = some r
 | [], i, a, b, _ => ⟨_, rfl⟩
 | f :: l, i, a, b, h => by
  obtain ⟨r, e⟩ := vaP (m := b) (h f (qo ..))
  rw [zO.l21, e, qf]
  split
  · exact ⟨_, rfl⟩
  unfold bnd
  dsimp only
  split
  · exact ⟨_, rfl⟩
  split
  · exact ⟨_, rfl⟩
  exact msg_l21 l _ _ _ fun g hg => h g (qp _ hg)
theorem msg_l12 {s : GSchema} {m : GMessage} {r2 : Bool × List (List UInt8 × Bool)} (hm : ∀ f ∈ m.fFields, nmOk f.fName) : ∀ (l : List Int) (i : Int) (a : List (Int × Bool)), ∃ r, zO.l12 s m r2 l i a = some r
 | [], i, a => msg_l21 _ _ _ _ hm
 | n :: l, i, a => by
  rw [zO.l12]
  unfold bnd
  dsimp only
  split
  · exact ⟨_, rfl⟩
  exact msg_l12 hm l _ _
theorem msg_t {s : GSchema} {a : List (List UInt8 × Bool)} {m : GMessage} (hm : nmM m) : ∃ r, zO s a m = some r := by
 obtain ⟨r, e⟩ := vaP (m := a) hm.1
 rw [zO, e, qf]
 split
 · exact ⟨_, rfl⟩
 split
 · exact ⟨_, rfl⟩
 exact msg_l12 hm.2 _ _ _
theorem enum_l23 {r2 : Bool × List (List UInt8 × Bool)} : ∀ (l : List GNamed) (i : Int) (a : List (List UInt8 × Bool)) (b : List (Int × Bool)), (∀ f ∈ l, nmOk f.fName) → ∃ r, yf.l23 r2 l i a b = some r
 | [], i, a, b, _ => ⟨_, rfl⟩
 | f :: l, i, a, b, h => by
  obtain ⟨r, e⟩ := vaP (m := a) (h f (qo ..))
  rw [yf.l23, e, qf]
  split
  · exact ⟨_, rfl⟩
  split
  · exact ⟨_, rfl⟩
  exact enum_l23 l _ _ _ fun g hg => h g (qp _ hg)
theorem enum_l12 {x : GEnumeration} {r2 : Bool × List (List UInt8 × Bool)} (hx : ∀ v ∈ x.fValues, nmOk v.fName) : ∀ (l : List GNamed) (i : Int) (z : Bool), ∃ r, yf.l12 x r2 l i z = some r
 | [], i, z => by
  rw [yf.l12]
  split
  · exact ⟨_, rfl⟩
  exact enum_l23 _ _ _ _ hx
 | v :: l, i, z => by rw [yf.l12]; exact enum_l12 hx l _ _
theorem enum_t {a : List (List UInt8 × Bool)} {x : GEnumeration} (hx : nmE x) : ∃ r, yf a x = some r := by
 obtain ⟨r, e⟩ := vaP (m := a) hx.1
 rw [yf, e, qf]
 split
 · exact ⟨_, rfl⟩
 split
 · exact ⟨_, rfl⟩
 exact enum_l12 hx.2 _ _ _
theorem chk_l29 {s : GSchema} : ∀ (l : List GMethod) (i : Int) (a : List (List UInt8 × Bool)), (∀ x ∈ l, nmOk x.fName) → ∃ r, zx.l29 s l i a = some r
 | [], i, a, _ => ⟨_, rfl⟩
 | x :: l, i, a, h => by
  obtain ⟨r, e⟩ := vaP (m := a) (h x (qo ..))
  rw [zx.l29]
  unfold bnd
  dsimp only
  rw [e, qf]
  split
  · exact ⟨_, rfl⟩
  split
  · exact ⟨_, rfl⟩
  exact chk_l29 l _ _ fun g hg => h g (qp _ hg)
theorem chk_l22 {s : GSchema} (hs : ∀ x ∈ s.fMethods, nmOk x.fName) : ∀ (l : List GEnumeration) (i : Int) (a : List (List UInt8 × Bool)), (∀ x ∈ l, nmE x) → ∃ r, zx.l22 s l i a = some r
 | [], i, a, _ => chk_l29 _ _ _ hs
 | x :: l, i, a, h => by
  obtain ⟨r, e⟩ := enum_t (a := a) (h x (qo ..))
  rw [zx.l22, e, qf]
  split
  · exact chk_l22 hs l _ _ fun g hg => h g (qp _ hg)
  exact ⟨_, rfl⟩
theorem chk_l15 {s : GSchema} (hs : nmS s) : ∀ (l : List GMessage) (i : Int) (a : List (List UInt8 × Bool)), (∀ x ∈ l, nmM x) → ∃ r, zx.l15 s l i a = some r
 | [], i, a, _ => chk_l22 hs.2.2.2 _ _ _ hs.2.2.1
 | x :: l, i, a, h => by
  obtain ⟨r, e⟩ := msg_t (s := s) (a := a) (h x (qo ..))
  rw [zx.l15, e, qf]
  split
  · exact chk_l15 hs l _ _ fun g hg => h g (qp _ hg)
  exact ⟨_, rfl⟩
def chkV (s : GSchema) : Int := (zx s).getD 0
theorem X5 {s : GSchema} (hs : nmS s) : zx s = some (chkV s) := by
 have : ∃ r, zx s = some r := by
  rw [zx, nameV_eq hs.1, qf]
  split
  · exact ⟨_, rfl⟩
  split
  · exact ⟨_, rfl⟩
  split
  · exact ⟨_, rfl⟩
  exact chk_l15 hs _ _ _ hs.2.1
 obtain ⟨v, e⟩ := this
 unfold chkV; rw [e]; rfl
end
section
set_option maxRecDepth 4000
open AM
inductive Shuf : List GRaw → List GRaw → Prop
 | refl (l : List GRaw) : Shuf l l
 | cons (a : GRaw) {l m : List GRaw} : Shuf l m → Shuf (a :: l) (a :: m)
 | swap {a b : GRaw} (h : a.fTag ≠ b.fTag) (l : List GRaw) : Shuf (a :: b :: l) (b :: a :: l)
 | trans {l m n : List GRaw} : Shuf l m → Shuf m n → Shuf l n
theorem shuf_move {r : GRaw} : ∀ {B : List GRaw}, (∀ b ∈ B, b.fTag ≠ r.fTag) → Shuf (B ++ [r]) (r :: B)
 | [], _ => .refl _
 | b :: B, h => .trans (.cons b (shuf_move fun x hx => h x (qp _ hx))) (.swap (h b (qo ..)) B)
theorem shuf_ins {r : GRaw} : ∀ {l : List GRaw}, l.Pairwise TagLe → Shuf (l ++ [r]) (vae r l)
 | [], _ => .refl _
 | x :: l, h => by
  rw [vae]
  rw [uj] at h
  split
  · rename_i hlt
    refine shuf_move fun b hb => ?_
    rcases qD.1 hb with rfl | hb
    · omega
    have := h.1 b hb; unfold TagLe at this; omega
  exact .cons x (shuf_ins h.2)
theorem Shuf.app {l m : List GRaw} (h : Shuf l m) (k : List GRaw) : Shuf (l ++ k) (m ++ k) := by
 induction h with
 | refl l => exact .refl _
 | cons a _ ih => exact .cons a ih
 | swap h l => exact .swap h _
 | trans _ _ h1 h2 => exact .trans h1 h2
theorem shuf_srtA : ∀ {l S : List GRaw}, S.Pairwise TagLe → Shuf (S ++ l) (vaS l S)
 | [], S, _ => by rw [vaS, qx]; exact .refl _
 | r :: l, S, h => by
  rw [vaS, show S ++ r :: l = (S ++ [r]) ++ l by rw [qr]; rfl]
  exact .trans ((shuf_ins h).app l) (shuf_srtA (Zy h))
theorem shuf_srt (l : List GRaw) : Shuf l (srt l) := shuf_srtA (S := []) List.Pairwise.nil
theorem vbb {m : GMessage} {one : GType → GRaw → GTree × Int} : ∀ {l : List GRaw} {es : List GEntry} {rest rest' : List GRaw}, (∀ k, srt (rest ++ k) = srt (rest' ++ k)) → YU m one l es rest = YU m one l es rest'
 | [], es, rest, rest', h => by
  have := h []
  rw [qx, qx] at this
  rw [YU, YU, this]
 | r :: l, es, rest, rest', h => by
  rw [YU, YU]
  have h2 := vbb (m := m) (one := one) (l := l) (es := es) (rest := rest ++ [r]) (rest' := rest' ++ [r]) fun k => by rw [qr, qr]; exact h _
  have h1 := vbb (m := m) (one := one) (l := l) (es := Za r.fTag ((zm m r.fTag).1.fLabel = 3) (one (zm m r.fTag).1.fType r).1 es) h
  rw [h1, h2]
theorem putE_comm {s t : Int} (hst : s ≠ t) {p q : Prop} [Decidable p] [Decidable q] {x y : GTree} : ∀ {es : List GEntry}, Za s p x (Za t q y es) = Za t q y (Za s p x es)
 | [] => by
  by_cases h : s < t
  · simp only [reduceIte, Za, wg, (show ¬ t < s by omega), (show ¬ t = s by omega), h]
  simp only [reduceIte, Za, wg, (show t < s by omega), (show ¬ s < t by omega), hst]
 | e :: es => by
  have ih := putE_comm hst (p := p) (q := q) (x := x) (y := y) (es := es)
  rcases Int.lt_or_gt_of_ne hst with h | h
  · by_cases a : e.fTag < s
    · simp only [reduceIte, Za, a, (show e.fTag < t by omega), ih]
    by_cases a' : e.fTag = s
    · simp only [reduceIte, Za, a, a', h, wg, (show ¬ s < s by omega)]
    by_cases b : e.fTag < t
    · simp only [reduceIte, Za, a, a', b, wg, h]
    by_cases b' : e.fTag = t
    · simp only [reduceIte, Za, b', (show ¬ t < s by omega), (show ¬ t = s by omega), (show ¬ t < t by omega), wg, h]
    simp only [reduceIte, Za, a, a', b, b', wg, h, (show ¬ t < s by omega), (show ¬ t = s by omega)]
  have h' : t < s := h
  by_cases a : e.fTag < t
  · simp only [reduceIte, Za, a, (show e.fTag < s by omega), ih]
  by_cases a' : e.fTag = t
  · simp only [reduceIte, Za, a, a', h', wg, (show ¬ t < t by omega)]
  by_cases b : e.fTag < s
  · simp only [reduceIte, Za, a, a', b, wg, h']
  by_cases b' : e.fTag = s
  · simp only [reduceIte, Za, b', (show ¬ s < t by omega), hst, (show ¬ s < s by omega), wg, h']
  simp only [reduceIte, Za, a, a', b, b', wg, h', (show ¬ s < t by omega), hst]
theorem XU {s t : Int} (hst : s ≠ t) {p q : Prop} [Decidable p] [Decidable q] {y : GTree} : ∀ {es : List GEntry}, Xo s p (Za t q y es) = Xo s p es
 | [] => by
  by_cases h : s < t
  · simp only [reduceIte, Za, Xo, wg, (show ¬ t < s by omega), (show ¬ t = s by omega)]
  simp only [reduceIte, Za, Xo, wg, (show t < s by omega)]
 | e :: es => by
  have ih := XU hst (p := p) (q := q) (y := y) (es := es)
  by_cases a : e.fTag < t
  · simp only [reduceIte, Za, Xo, a, ih]
  by_cases a' : e.fTag = t
  · by_cases b : t < s
    · simp only [reduceIte, Za, Xo, a, a', wg, b, (show ¬ t < t by omega)]
    simp only [reduceIte, Za, Xo, a, a', wg, b, (show ¬ t < t by omega), (show ¬ t = s by omega)]
  by_cases b : t < s
  · simp only [reduceIte, Za, Xo, a, a', wg, b]
  simp only [reduceIte, Za, Xo, a, a', wg, b, (show ¬ t = s by omega), (show ¬ e.fTag < s by omega), (show ¬ e.fTag = s by omega)]
theorem fldD_swap {m : GMessage} {one : GType → GRaw → GTree × Int} {a b : GRaw} (hab : a.fTag ≠ b.fTag) {l : List GRaw} {es : List GEntry} {rest : List GRaw} (h0 : (YU m one (a :: b :: l) es rest).2 = 0) : YU m one (b :: a :: l) es rest = YU m one (a :: b :: l) es rest := by
 have h4 : ¬ ((Zv, (4 : Int)).2 = 0) := by decide
 have nab := fun (x : GTree) (es : List GEntry) => XU (Ne.symm hab) (p := (zm m b.fTag).1.fLabel = 3) (q := (zm m a.fTag).1.fLabel = 3) (y := x) (es := es)
 have nba := fun (x : GTree) (es : List GEntry) => XU hab (p := (zm m a.fTag).1.fLabel = 3) (q := (zm m b.fTag).1.fLabel = 3) (y := x) (es := es)
 simp only [YU, nab, nba] at h0 ⊢
 by_cases ka : (zm m a.fTag).2 = true
 · by_cases oa : (one (zm m a.fTag).1.fType a).2 = 0
   · by_cases na : Xo a.fTag ((zm m a.fTag).1.fLabel = 3) es ≤ 64
     · by_cases kb : (zm m b.fTag).2 = true
       · by_cases ob : (one (zm m b.fTag).1.fType b).2 = 0
         · by_cases nb : Xo b.fTag ((zm m b.fTag).1.fLabel = 3) es ≤ 64
           · simp only [ka, oa, na, kb, ob, nb, reduceIte]
             rw [putE_comm hab]
           simp only [ka, oa, na, kb, ob, nb, reduceIte] at h0; exact absurd h0 h4
         simp only [ka, oa, na, kb, ob, reduceIte] at h0
       simp only [ka, oa, na, kb, reduceIte, qT]
     simp only [ka, oa, na, reduceIte] at h0; exact absurd h0 h4
   simp only [ka, oa, reduceIte] at h0
 by_cases kb : (zm m b.fTag).2 = true
 · by_cases ob : (one (zm m b.fTag).1.fType b).2 = 0
   · by_cases nb : Xo b.fTag ((zm m b.fTag).1.fLabel = 3) es ≤ 64
     · simp only [ka, kb, ob, nb, reduceIte, qT]
     simp only [ka, kb, ob, nb, reduceIte, qT] at h0; exact absurd h0 h4
   simp only [ka, kb, ob, reduceIte, qT] at h0
 simp only [ka, kb, reduceIte, qT]
 refine vbb fun k => srt_of (XP _) fun t => ?_
 rw [srt_filter]
 simp only [List.filter_append, qr]
 congr 1
 rw [← qr, ← qr]
 congr 1
 simp only [ut, List.filter_nil, decide_eq_true_eq]
 by_cases h1 : a.fTag = t
 · rw [if_pos h1, if_neg (show ¬ b.fTag = t by omega)]; rfl
 rw [if_neg h1]; simp
theorem fldD_shuf {m : GMessage} {one : GType → GRaw → GTree × Int} {l k : List GRaw} (h : Shuf l k) : ∀ {es : List GEntry} {rest : List GRaw}, (YU m one l es rest).2 = 0 → YU m one k es rest = YU m one l es rest := by
 induction h with
 | refl l => intros; rfl
 | cons a _ ih =>
  intro es rest h0
  simp only [YU] at h0 ⊢
  by_cases ka : (zm m a.fTag).2 = true
  · rw [if_pos ka] at h0 ⊢
    rw [if_pos ka]
    by_cases oa : (one (zm m a.fTag).1.fType a).2 = 0
    · rw [if_pos oa] at h0 ⊢
      rw [if_pos oa]
      by_cases na : Xo a.fTag ((zm m a.fTag).1.fLabel = 3) es ≤ 64
      · rw [if_pos na] at h0 ⊢
        rw [if_pos na]; exact ih h0
      rw [if_neg na, if_neg na]
    rw [if_neg oa, if_neg oa]
  rw [if_neg ka] at h0 ⊢
  rw [if_neg ka]; exact ih h0
 | swap h l => intro es rest h0; exact fldD_swap h h0
 | trans _ _ h1 h2 =>
  intro es rest h0
  have e := h1 h0
  rw [h2 (by rw [e]; exact h0), e]
end
section
set_option maxRecDepth 4000
open AM
theorem getD_of {l : List GRaw} (h : ∀ r ∈ l, ZD r) (hb : (xL l).length ≤ 4096) : getD (xL l) = (l, 0) := by
 unfold getD; rw [wire_Get_ok h hb]; rfl
def okV (f : GMessage → GTree → Prop) (s : GSchema) (y : GType) (x : GTree) : Prop :=
 if y.fKind = 7 then x.fKind = 3 ∧ f (msgOf s y.fName) x
 else if y.fKind = 4 ∨ y.fKind = 5 then x = ⟨2, 0, x.fS, [], []⟩ ∧ x.fS.length ≤ 4096 ∧ (y.fKind = 4 → vaU x.fS = true)
 else x = ⟨1, x.fN, [], [], []⟩ ∧ In64 x.fN ∧ (y.fKind = 3 ∨ y.fKind = 6 → xj y x.fN = true)
def okN (f : GMessage → GTree → Prop) (s : GSchema) (m : GMessage) (e : GEntry) : Prop :=
 (1 ≤ e.fTag ∧ e.fTag ≤ 500) ∧ (zm m e.fTag).2 = true ∧ (1 ≤ e.fTrees.length ∧ e.fTrees.length ≤ 64) ∧ ((zm m e.fTag).1.fLabel ≠ 3 → e.fTrees.length = 1) ∧ ∀ x ∈ e.fTrees, okV f s (zm m e.fTag).1.fType x
def okT (s : GSchema) : Nat → GMessage → GTree → Prop
 | 0, _, _ => False
 | d + 1, m, t => t.fKind = 3 ∧ t.fN = 0 ∧ t.fS = [] ∧ t.fEntries.Pairwise Yk ∧ (∀ e ∈ t.fEntries, okN (okT s d) s m e ∧ isZ m e = false) ∧ t.fRest.Pairwise TagLe ∧ t.fRest.length ≤ 4096 ∧ ∀ r ∈ t.fRest, ZD r ∧ (zm m r.fTag).2 ≠ true
def kindT (y : GType) : Int := if y.fKind = 7 then 3 else if y.fKind = 4 ∨ y.fKind = 5 then 2 else 1
theorem gt_kind (k n : Int) (s : List UInt8) (e : List GEntry) (r : List GRaw) : (GTree.mk k n s e r).fKind = k := rfl
theorem gt_s (k n : Int) (s : List UInt8) (e : List GEntry) (r : List GRaw) : (GTree.mk k n s e r).fS = s := rfl
theorem gt_es (k n : Int) (s : List UInt8) (e : List GEntry) (r : List GRaw) : (GTree.mk k n s e r).fEntries = e := rfl
theorem gt_rest (k n : Int) (s : List UInt8) (e : List GEntry) (r : List GRaw) : (GTree.mk k n s e r).fRest = r := rfl
theorem gt_eta (t : GTree) : t = ⟨t.fKind, t.fN, t.fS, t.fEntries, t.fRest⟩ := by cases t; rfl
theorem okV_kind {f : GMessage → GTree → Prop} {s : GSchema} {y : GType} {x : GTree} (h : okV f s y x) : x.fKind = kindT y := by
 unfold okV at h; unfold kindT
 by_cases h7 : y.fKind = 7
 · rw [if_pos h7] at h ⊢; exact h.1
 rw [if_neg h7] at h ⊢
 by_cases h4 : y.fKind = 4 ∨ y.fKind = 5
 · rw [if_pos h4] at h ⊢; rw [h.1]; rfl
 rw [if_neg h4] at h ⊢; rw [h.1]; rfl
theorem okV_leaf {f : GMessage → GTree → Prop} {s : GSchema} {y : GType} {x : GTree} (h : okV f s y x) (h7 : y.fKind ≠ 7) : x.fEntries = [] ∧ x.fRest = [] ∧ In64 x.fN ∧ leafB x = true ∧ x.fKind ≠ 3 := by
 unfold okV at h
 rw [if_neg h7] at h
 split at h
 · rw [h.1]
   exact ⟨rfl, rfl, in0, rfl, by rw [gt_kind]; decide⟩
 refine ⟨by rw [h.1]; rfl, by rw [h.1]; rfl, h.2.1, ?_, by rw [h.1, gt_kind]; decide⟩
 rw [h.1]; rfl
theorem kids_nil {x : GTree} (h : x.fEntries = []) : kids x = [] := by unfold kids; rw [h]; rfl
theorem szT_leaf {x : GTree} (h1 : x.fEntries = []) (h2 : x.fRest = []) (h3 : In64 x.fN) : ∀ d, szT d x
 | 0 => ⟨h3, by rw [h2]; exact um _, by rw [h2]; intro r hr; cases hr⟩
 | d + 1 => ⟨⟨h3, by rw [h2]; exact um _, by rw [h2]; intro r hr; cases hr⟩, by rw [kids_nil h1]; intro x hx; cases hx⟩
theorem okT_sz {s : GSchema} : ∀ (d n : Nat) (m : GMessage) (t : GTree), d ≤ n → okT s d m t → szT n t
 | 0, _, _, _, _, h => h.elim
 | d + 1, 0, _, _, h, _ => absurd h (by omega)
 | d + 1, n + 1, m, t, hn, h => by
  obtain ⟨_, h0, _, _, he, _, hl, hr⟩ := h
  refine ⟨⟨by rw [h0]; exact in0, by omega, fun r hm => (hr r hm).1.2⟩, fun x hx => ?_⟩
  obtain ⟨e, hm, hxe⟩ := List.mem_flatMap.1 hx
  have hv := (he e hm).1.2.2.2.2 x hxe
  by_cases h7 : (zm m e.fTag).1.fType.fKind = 7
  · unfold okV at hv; rw [if_pos h7] at hv
    exact okT_sz d n _ x (by omega) hv.2
  obtain ⟨a, b, c, _, _⟩ := okV_leaf hv h7
  exact szT_leaf a b c n
theorem leafB_right {x : GTree} (h : leafB x = true) (h3 : x.fKind ≠ 3) : ∀ d, wz d x = true
 | 0 => h
 | d + 1 => by rw [wz, if_neg h3]; exact h
theorem okT_ents {d : Nat} {s : GSchema} {m : GMessage} {f : GTree → Bool} (hf : ∀ y x, okV (okT s d) s y x → f x = true) : ∀ {l : List GEntry} {last : Int}, l.Pairwise Yk → (∀ e ∈ l, last < e.fTag) → (∀ e ∈ l, okN (okT s d) s m e) → entB f last l = true
 | [], _, _, _, _ => rfl
 | e :: l, last, hs, hlt, he => by
  rw [uj] at hs
  obtain ⟨⟨h1, h2⟩, h3, h4, h5, h6⟩ := he e (qo ..)
  rw [entB, okT_ents hf hs.2 (fun a ha => hs.1 a ha) fun a ha => he a (qp _ ha), q2, ql, decide_eq_true_eq]
  refine ⟨⟨hlt e (qo ..), h2, h4.1, h4.2⟩, q3.2 fun x hx => ?_⟩
  rw [ql, decide_eq_true_eq]
  refine ⟨?_, hf _ x (h6 x hx)⟩
  rw [okV_kind (h6 x hx)]
  cases ht : e.fTrees with
  | nil => rw [ht] at hx; cases hx
  | cons a l => rw [List.headD_cons]; exact (okV_kind (h6 a (by rw [ht]; exact qo ..))).symm
theorem va5 {s : GSchema} : ∀ (d n : Nat) (m : GMessage) (t : GTree), d ≤ n → okT s d m t → wz n t = true
 | 0, _, _, _, _, h => h.elim
 | d + 1, 0, _, _, h, _ => absurd h (by omega)
 | d + 1, n + 1, m, t, hn, h => by
  obtain ⟨h3, h0, hS, hs, he, hrs, _, hr⟩ := h
  rw [wz, if_pos h3]
  have e1 : entB (wz n) 0 t.fEntries = true := by
   refine okT_ents (m := m) (d := d) (s := s) ?_ hs (fun e hm => by have := (he e hm).1.1; omega) fun e hm => (he e hm).1
   intro y x hv
   by_cases h7 : y.fKind = 7
   · unfold okV at hv; rw [if_pos h7] at hv
     exact va5 d n _ x (by omega) hv.2
   obtain ⟨_, _, _, d1, e1⟩ := okV_leaf hv h7
   exact leafB_right d1 e1 n
  have e2 : restB t = true := by
   unfold restB
   rw [ql]
   refine ⟨q3.2 fun r hm => ?_, risB_iff.2 hrs⟩
   obtain ⟨⟨a, _⟩, b⟩ := hr r hm
   rw [a, uE, uw, List.any_eq_false]
   intro e hme hc
   rw [decide_eq_true_eq] at hc
   exact b (by rw [← hc]; exact (he e hme).1.2.1)
  rw [e1, e2, decide_eq_true h0, decide_eq_true hS]; rfl
theorem okT_dep {s : GSchema} : ∀ (d n : Nat) (m : GMessage) (t : GTree), okT s d m t → vbk n t ≤ d
 | 0, _, _, _, h => h.elim
 | d + 1, 0, _, _, _ => um _
 | d + 1, n + 1, m, t, h => by
  rw [vbk]
  split
  · refine Nat.succ_le_succ (maxD_le (um _) fun x hx => ?_)
    obtain ⟨e, hm, hxe⟩ := List.mem_flatMap.1 hx
    have hv := (h.2.2.2.2.1 e hm).1.2.2.2.2 x hxe
    by_cases h7 : (zm m e.fTag).1.fType.fKind = 7
    · unfold okV at hv; rw [if_pos h7] at hv
      exact okT_dep d n _ x hv.2
    obtain ⟨_, _, _, _, e1⟩ := okV_leaf hv h7
    cases n with
    | zero => exact um _
    | succ n => rw [vbk, if_neg e1]; exact um _
  exact um _
theorem okT_check {s : GSchema} {d : Nat} {m : GMessage} {t : GTree} (hd : d ≤ 10) (h : okT s d m t) : Yg t = true := by
 have := okT_dep d 101 m t h
 rw [Yg, decide_eq_true (by omega), uE]
 exact va5 d 10 m t hd h
theorem gr_wire (a b c : Int) (d : List UInt8) : (GRaw.mk a b c d).fWire = b := rfl
theorem gr_n (a b c : Int) (d : List UInt8) : (GRaw.mk a b c d).fN = c := rfl
theorem gr_b (a b c : Int) (d : List UInt8) : (GRaw.mk a b c d).fB = d := rfl
theorem rawT_tag {enc : GTree → Option (List UInt8)} {tag : Int} {x : GTree} {r : GRaw} (h : vas enc tag x = some r) : r.fTag = tag := by
 unfold vas at h
 split at h
 · cases h; rfl
 split at h
 · split at h
   · cases h
   cases h; rfl
 obtain ⟨b, hb, h⟩ := bind_some h
 cases h; rfl
theorem Xw {msg : GMessage → List UInt8 → GTree × Int} {s : GSchema} {y : GType} {r : GRaw} (h : (y.fKind = 4 ∨ y.fKind = 5 ∨ y.fKind = 7) ∧ r.fWire = 1 ∨ ¬ (y.fKind = 4 ∨ y.fKind = 5 ∨ y.fKind = 7) ∧ r.fWire = 0) :
 oneD msg s y r = (if y.fKind = 3 ∨ y.fKind = 6 then (if xj y r.fN = true then (⟨1, r.fN, [], [], []⟩, 0) else (Zv, 11))
 else if y.fKind = 4 then (if vaU r.fB = true then (⟨2, 0, r.fB, [], []⟩, 0) else (Zv, 9))
 else if y.fKind = 7 then msg (msgOf s y.fName) r.fB
 else (if r.fWire = 1 then ⟨2, 0, r.fB, [], []⟩ else ⟨1, r.fN, [], [], []⟩, 0)) := by
 unfold oneD
 refine if_pos ?_
 rcases h with ⟨h, h'⟩ | ⟨h, h'⟩
 · rw [if_pos h]; exact h'
 rw [if_neg h]; exact h'
theorem oneD_back {s : GSchema} {d : Nat} {y : GType} {x : GTree} {tag : Int} {q : GRaw} (ih : ∀ m t c, okT s d m t → YW d t = some c → YX s d m c = (t, 0)) (hv : okV (okT s d) s y x) (hq : vas (YW d) tag x = some q) : oneD (YX s d) s y q = (x, 0) := by
 have hk := okV_kind hv
 unfold okV at hv; unfold vas at hq; unfold kindT at hk
 by_cases h7 : y.fKind = 7
 · rw [if_pos h7] at hv hk
   rw [if_neg (by omega), if_neg (by omega)] at hq
   obtain ⟨c, hc, hq⟩ := bind_some hq
   cases hq
   rw [Xw (Or.inl ⟨Or.inr (Or.inr h7), rfl⟩), if_neg (by omega), if_neg (by omega), if_pos h7, gr_b]
   exact ih _ _ _ hv.2 hc
 rw [if_neg h7] at hv hk
 by_cases h4 : y.fKind = 4 ∨ y.fKind = 5
 · rw [if_pos h4] at hv hk
   rw [if_neg (by omega), if_pos hk, if_neg (by omega)] at hq
   cases hq
   rw [Xw (Or.inl ⟨by rcases h4 with h | h; exact Or.inl h; exact Or.inr (Or.inl h), rfl⟩), if_neg (by omega), gr_b]
   by_cases h44 : y.fKind = 4
   · rw [if_pos h44, if_pos (hv.2.2 h44), ← hv.1]
   rw [if_neg h44, if_neg h7, gr_wire, if_pos rfl, ← hv.1]
 rw [if_neg h4] at hv hk
 rw [if_pos hk] at hq
 cases hq
 rw [Xw (Or.inr ⟨by omega, rfl⟩)]
 by_cases h3 : y.fKind = 3 ∨ y.fKind = 6
 · rw [if_pos h3, gr_n, if_pos (hv.2.2 h3), ← hv.1]
 rw [if_neg h3, if_neg (by omega), if_neg h7, gr_wire, if_neg (by decide), gr_n, ← hv.1]
theorem fldD_unk {m : GMessage} {one : GType → GRaw → GTree × Int} {B : List GRaw} {es : List GEntry} : ∀ {A rest : List GRaw}, (∀ r ∈ A, (zm m r.fTag).2 ≠ true) → YU m one (A ++ B) es rest = YU m one B es (rest ++ A)
 | [], rest, _ => by rw [qx]; rfl
 | r :: A, rest, h => by
  rw [qC, YU, if_neg (h r (qo ..)), fldD_unk fun x hx => h x (qp _ hx), qr]; rfl
theorem fldD_more {m : GMessage} {one : GType → GRaw → GTree × Int} {enc : GTree → Option (List UInt8)} {tag : Int} {A : List GEntry} {M rest : List GRaw} (hk : (zm m tag).2 = true) (h3 : (zm m tag).1.fLabel = 3) (hA : ∀ a ∈ A, a.fTag < tag) : ∀ {l : List GTree} {ts : List GTree} {L : List GRaw}, ts.length + l.length ≤ 64 → (∀ x ∈ l, ∀ q, vas enc tag x = some q → one (zm m tag).1.fType q = (x, 0)) → rawL enc tag l = some L → YU m one (L ++ M) (A ++ [⟨tag, ts⟩]) rest = YU m one M (A ++ [⟨tag, ts ++ l⟩]) rest
 | [], ts, L, _, _, h => by cases h; rw [qx]; rfl
 | x :: l, ts, L, hl, ho, h => by
  obtain ⟨q, hq, h⟩ := bind_some h
  obtain ⟨L', hL, h⟩ := bind_some h
  cases h
  rw [qk] at hl
  have hn : ∀ rep : Prop, [Decidable rep] → rep → Xo tag rep (A ++ [⟨tag, ts⟩]) = ts.length + 1 := by
   intro rep _ hr
   rw [vat hA, Xo, wg, if_neg (by omega), if_pos rfl, if_pos hr, xF]
  have he : ∀ rep : Prop, [Decidable rep] → rep → Za tag rep x (A ++ [⟨tag, ts⟩]) = A ++ [⟨tag, ts ++ [x]⟩] := by
   intro rep _ hr
   rw [vau hA, Za, wg, if_neg (by omega), if_pos rfl, if_pos hr, xF]
  rw [qC, YU, rawT_tag hq, if_pos hk, ho x (qo ..) q hq, if_pos rfl, if_pos (by rw [hn _ h3]; omega), he _ h3, fldD_more hk h3 hA (by rw [qi, qG]; omega) (fun z hz => ho z (qp _ hz)) hL, qr]; rfl
theorem fldD_entry {m : GMessage} {one : GType → GRaw → GTree × Int} {enc : GTree → Option (List UInt8)} {e : GEntry} {A : List GEntry} {M rest L : List GRaw} (hk : (zm m e.fTag).2 = true) (h1 : 1 ≤ e.fTrees.length) (h64 : e.fTrees.length ≤ 64) (hl : (zm m e.fTag).1.fLabel ≠ 3 → e.fTrees.length = 1) (hA : ∀ a ∈ A, a.fTag < e.fTag) (ho : ∀ x ∈ e.fTrees, ∀ q, vas enc e.fTag x = some q → one (zm m e.fTag).1.fType q = (x, 0)) (h : rawL enc e.fTag e.fTrees = some L) : YU m one (L ++ M) A rest = YU m one M (A ++ [e]) rest := by
 obtain ⟨tag, ts⟩ := e
 rw [wg] at *
 rw [xF] at *
 cases ts with
 | nil => exact absurd h1 (by decide)
 | cons x l =>
  obtain ⟨q, hq, h⟩ := bind_some h
  obtain ⟨L', hL, h⟩ := bind_some h
  cases h
  have hn : ∀ rep : Prop, [Decidable rep] → Xo tag rep A = 1 := by
   intro rep _
   have := vat (rep := rep) (B := []) hA
   rw [qx] at this
   rw [this]; rfl
  have he : ∀ rep : Prop, [Decidable rep] → Za tag rep x A = A ++ [⟨tag, [x]⟩] := by
   intro rep _
   have := vau (rep := rep) (x := x) (B := []) hA
   rw [qx] at this
   rw [this]; rfl
  rw [qC, YU, rawT_tag hq, if_pos hk, ho x (qo ..) q hq, if_pos rfl, if_pos (by rw [hn]; decide), he]
  cases l with
  | nil => cases hL; rfl
  | cons y l =>
   have h3 : (zm m tag).1.fLabel = 3 := by
    by_cases h3 : (zm m tag).1.fLabel = 3
    · exact h3
    have := hl h3; rw [qk, qk] at this; omega
   have := fldD_more (m := m) (one := one) (enc := enc) (tag := tag) (A := A) (M := M) (rest := rest) hk h3 hA (l := y :: l) (ts := [x]) (L := L') (by rw [qk] at h64; rw [qG]; omega) (fun z hz => ho z (qp _ hz)) hL
   exact this
theorem fldD_ents {d : Nat} {s : GSchema} {m : GMessage} {rest : List GRaw} (ih : ∀ m t c, okT s d m t → YW d t = some c → YX s d m c = (t, 0)) : ∀ {B A : List GEntry} {L : List GRaw}, (A ++ B).Pairwise Yk → (∀ e ∈ B, okN (okT s d) s m e) → XM (YW d) B = some L → YU m (oneD (YX s d) s) L A rest = (⟨3, 0, [], zdel m (A ++ B), srt rest⟩, 0)
 | [], A, L, _, _, h => by cases h; rw [YU, qx]
 | e :: B, A, L, hs, he, h => by
  obtain ⟨a, ha, h⟩ := bind_some h
  obtain ⟨L', hL, h⟩ := bind_some h
  cases h
  obtain ⟨_, h2, h3, h4, h5⟩ := he e (qo ..)
  rw [fldD_entry (enc := YW d) h2 h3.1 h3.2 h4 (fun x hx => (List.pairwise_append.1 hs).2.2 x hx e (qo ..)) (fun x hx q hq => oneD_back ih (h5 x hx) hq) ha, fldD_ents ih (A := A ++ [e]) (by rw [qr]; exact hs) (fun x hx => he x (qp _ hx)) hL, qr]; rfl
theorem zdel_id {m : GMessage} {es : List GEntry} (h : ∀ e ∈ es, isZ m e = false) : zdel m es = es := by
 unfold zdel
 rw [List.filter_eq_self]
 intro e he
 rw [h e he]; rfl
theorem decM_back {s : GSchema} : ∀ (d : Nat) (m : GMessage) (t : GTree) (c : List UInt8), okT s d m t → YW d t = some c → YX s d m c = (t, 0)
 | 0, _, _, _, h, _ => h.elim
 | d + 1, m, t, c, hok, h => by
  have hr := va5 (d + 1) (d + 1) m t (qq _) hok
  have hz := okT_sz (d + 1) (d + 1) m t (qq _) hok
  obtain ⟨h3, h0, hS, hs, he, hrs, hl, hrest⟩ := hok
  rw [YW] at h
  obtain ⟨L, hL, h⟩ := bind_some h
  obtain ⟨hc, hlen⟩ := putB_some h
  have hg := getD_of (raws_ok hr h3 hz hL) (by rw [← hc]; exact hlen)
  have key : YU m (oneD (YX s d) s) (t.fRest ++ L) [] [] = (t, 0) := by
   rw [fldD_unk fun r hm => (hrest r hm).2, fldD_ents (decM_back d) (A := []) (B := t.fEntries) hs (fun e hm => (he e hm).1) hL, qA, qA, zdel_id (es := t.fEntries) fun e hm => (he e hm).2, srt_id hrs, ← h3, ← h0, ← hS, ← gt_eta]
  rw [YX, hc, hg, if_pos rfl, fldD_shuf (shuf_srt _) (by rw [key]), key]
end
end Go.Proofs.YtaddlmlpeghonaaDoor
