/- Parts of the proof, cut down to what it needs. -/
import Derived.Test.YtaddlmlpeghonaaGreatDoorKCf
set_option linter.constructorNameAsVariable false
set_option linter.unusedSimpArgs false
set_option linter.unusedVariables false
namespace Go.Proofs.YtaddlmlpeghonaaGreatDoor
open _root_.List renaming length → qc, flatMap → qf, length_append → qi, length_cons → qk, length_nil → ql, mem_cons_self → qp, append_assoc → qq, mem_cons_of_mem → qr, getD_eq_getElem?_getD → qu, map_nil → qv, drop_zero → qz, append_nil → qA, nil_append → qB, length_eq_zero_iff → qC, map_cons → qD, map_append → qE, length_singleton → qG, cons_append → qH, mem_cons → qM, replicate → qP, getElem?_append_left → qS, flatMap_cons → qT, getElem?_eq_getElem → qW, range_zero → qX, flatMap_append → qY, length_map → q2, getElem?_eq_some_iff → q3, all_cons → q5, range_succ → q7, all_eq_true → ua, getElem?_set_ne → ub, all_nil → ud, take_of_length_le → uh, getElem?_append_right → ui, flatMap_nil → uj, take_length → um, pairwise_cons → un, take_append_drop → uo, getElem?_set_self → ur, mem_append_right → ut, getElem?_eq_none → uu, mem_map → uv, mem_append → ux, range → uz, filter_cons → uA, set_cons_zero → uB, length_take → uF, length_drop → uG, getElem?_cons_zero → uH, getElem?_cons_succ → uI, mem_singleton → uJ, set_cons_succ → uP
open _root_.Option renaming bind_some → qg, map_some → uw, getD_some → uO
open _root_.Nat renaming reduceEqDiff → qa, reduceLT → qb, reduceAdd → qd, reduceLeDiff → qe, zero_add → qn, reduceMul → qs, le_refl → qt, lt_succ_self → qw, reduceSub → qF, mul_le_mul_right → qZ, reduceMod → uf, lt_of_lt_of_le → ug, zero_le → ul, le_trans → uq, zero_mul → uy, sub_zero → uM, sub_self → uN, succ_mul → uQ, add_zero → uR, add_assoc → uS, add_mul → uT
open _root_.Bool renaming and_eq_true → qm, not_false → qx, not_true → qI, or_true → qJ, and_false → qL, and_true → qO, or_eq_true → qQ, or_false → qR, and_self → qU, false_eq_true → q1, not_eq_true' → uD, true_and → uE, false_ne_true → uK, false_or → uL
open _root_.Int renaming toNat → qK, toNat_natCast → qV
open _root_.BitVec renaming ofInt → qy, toNat → uk
open _root_.Array renaming length_toList → ue, getD_eq_getD_getElem? → uC, getElem?_eq_getElem → uU
open _root_.UInt8 renaming ofNat → uc
open Result renaming andThen_ok → qj
open Sem renaming run_bind → qo, run_pure → qN
open _root_.Go.Proofs.Tryz renaming prog → qh
section
set_option maxRecDepth 4000
set_option maxHeartbeats 1000000
open AM
theorem AM.idx_arr {T : TT} {t n e : Nat} {i j : TI} (hi : T t = some i) (hd : i.desc = .array n e) (hj : T e = some j) (hs : j.size = 1) (ha : j.agg = false) {l : List Int} (hn : n = l.length) {k : Int} {y : Int} (hx : wW l k = some y) (q : IntKind) : Y8 T t (.agg (l.map (AV.int .i64))) (.int q k) = some (.int .i64 y) := by
 obtain ⟨h0, h1, h2, h3⟩ := xW hx
 simp only [Y8, hi, hd, hj, hs, ha, Nat.mul_one]
 rw [if_pos ⟨h0, by omega⟩]
 simp [vax, gc, qu, h3, q2, h2]
def zK.l25 (x2 : Int) (x3 : Int) (rec6 : Int → Int → Option Bool) (y12 : GMessage) : List GField → Int → Option Bool
 | [], x23 => (rec6 (IntKind.i64.wrap (x2 + (qc y12.fName : Int))) (IntKind.i64.wrap (x3 + 1)))
 | y25 :: q25, x23 => (if ((decide (200 < (qc y25.fName : Int))) || (decide (200 < (qc y25.fType.fName : Int)))) = true then some false else ((zK.l25 x2 x3 rec6 y12 q25) (x23 + 1)))
def zK.l60 (x41 : Int) (rec43 : Int → Option Bool) : List GNamed → Int → Option Bool
 | [], x58 => (rec43 (IntKind.i64.wrap (x41 + 1)))
 | y60 :: q60, x58 => (if 200 < (qc y60.fName : Int) then some false else ((zK.l60 x41 rec43 q60) (x58 + 1)))
def zK.l78 (a0 : GSchema) (x2 : Int) : Nat → Int → Option Bool
 | 0, _ => none
 | k78 + 1, x76 => (if ((decide (x76 < (qc a0.fMethods : Int))) && (decide (x76 < 20))) = true then (wW a0.fMethods x76).bind fun y84 => (if (((decide (200 < (qc y84.fName : Int))) || (decide (200 < (qc y84.fIn : Int)))) || (decide (200 < (qc y84.fOut : Int)))) = true then some false else ((zK.l78 a0 x2 k78) (IntKind.i64.wrap (x76 + 1)))) else some ((((decide (x2 < 3000)) && (decide ((qc a0.fMessages : Int) ≤ 14))) && (decide ((qc a0.fEnums : Int) ≤ 10))) && (decide ((qc a0.fMethods : Int) ≤ 10))))
def zK.l43 (a0 : GSchema) (x2 : Int) : Nat → Int → Option Bool
 | 0, _ => none
 | k43 + 1, x41 => (if ((decide (x41 < (qc a0.fEnums : Int))) && (decide (x41 < 20))) = true then (wW a0.fEnums x41).bind fun y50 => (if ((decide (200 < (qc y50.fName : Int))) || (decide (24 < (qc y50.fValues : Int)))) = true then some false else (zK.l60 x41 (zK.l43 a0 x2 k43) y50.fValues 0)) else (zK.l78 a0 x2 rounds 0))
def zK.l6 (a0 : GSchema) : Nat → Int → Int → Option Bool
 | 0, _, _ => none
 | k6 + 1, x2, x3 => (if ((decide (x3 < (qc a0.fMessages : Int))) && (decide (x3 < 20))) = true then (wW a0.fMessages x3).bind fun y12 => (if ((decide (20 < (qc y12.fFields : Int))) || (decide (40 < (qc y12.fReserved : Int)))) = true then some false else (zK.l25 x2 x3 (zK.l6 a0 k6) y12 y12.fFields 0)) else (zK.l43 a0 x2 rounds 0))
def zK (a0 : GSchema) : Option Bool :=
 (zK.l6 a0 rounds (qc a0.fName : Int) 0)
theorem zK.ok (a0 : GSchema) (r : Bool) (h : zK a0 = some r) : ACalls qh 11 [.agg (encGSchema a0)] [] (fun r' _ => r' = .bool r) := by
 refine zm (rs := [.tmp 2]) tok Tryz.func11 rfl Tryz.ntmps11 rfl Tryz.call11 (by simp) ?_
 refine zq [(0, .agg (encGSchema a0))] ⟨rfl, trivial⟩ ?_
 unfold zK at h
 refine rg tok [1] fun K hK => ?_
 simp only [go_sem, qb, qa, qd, reduceCtorEq, encGSchema]
 apply hK
 refine rg tok [1, 3] fun K hK => ?_
 simp only [go_sem, qb, qa, qd]
 apply hK
 refine ze fun Z1 hZ1 => ?_
 refine rg tok [1, 3, 4] fun K hK => ?_
 simp only [go_sem, qb, qa]
 apply hK
 refine zj ?_
 refine zB (fun m L τ => ∃ (k6 : Nat) (x2 : Int) (x3 : Int), m = 0 + k6 ∧ L = [(1, .op 0 0 0), (3, .int .i64 x2), (4, .int .i64 x3)] ∧ τ = ([.cells 0 (encGSchema a0)] : Store) ∧ zK.l6 a0 k6 x2 x3 = some r) _ ⟨rounds, (qc a0.fName : Int), 0, rfl, rfl, rfl, h⟩ .s ?_
 rintro m L τ ⟨k6, x2, x3, rfl, rfl, rfl, h⟩
 rcases k6 with _ | k6
 · cases h
 simp only [zK.l6] at h
 refine ze fun Z7 hZ7 => ?_
 refine rc [1, 3, 4, 21] fun K hK => ?_
 refine za tok 6 ?_
 simp only [go_sem, qb, qa, qd]
 refine zn 3 (fun L τ => L = [(1, .op 0 0 0), (3, .int .i64 x2), (4, .int .i64 x3), (21, .bool ((decide (x3 < (qc a0.fMessages : Int))) && (decide (x3 < 20))))] ∧ τ = ([.cells 0 (encGSchema a0)] : Store)) ?_ ?_
 · refine yH 18 rfl (fun hg18 => ?_) (fun hg18 => ?_)
   · have t8 := eq_true hg18
     refine za tok 3 ?_
     simp only [go_sem, qb, qa]
     refine zb ⟨rfl, _, _, ⟨rfl, rfl⟩, .p t8⟩
   have t9 := eq_false hg18
   refine za tok 3 ?_
   simp only [go_sem, qb, qa]
   refine zb ⟨rfl, _, _, ⟨rfl, rfl⟩, .p t9⟩
 rintro _ _ ⟨rfl, rfl⟩
 refine zb ?_
 simp only [zd, qa, reduceIte, zk, zo]
 apply hK
 refine zt (b := ((decide (x3 < (qc a0.fMessages : Int))) && (decide (x3 < 20)))) rfl (fun hc10 => ?_) (fun hc10 => ?_)
 · rw [if_pos hc10] at h
   refine zf ?_
   apply hZ7
   refine ze fun Z11 hZ11 => ?_
   refine zj ?_
   obtain ⟨y12, hy12, h⟩ := bind_some h
   have f13 := E22.idxS hy12
   have f14 := E22.fldS0 (f := 9) rfl rfl hy12
   refine rg tok [1, 3, 4] fun K hK => ?_
   simp only [go_sem, qb, qa, qd, encGMessage, f13, f14]
   apply hK
   refine ze fun Z15 hZ15 => ?_
   refine rc [1, 3, 4, 50] fun K hK => ?_
   have f16 := E22.idxS hy12
   have f17 := E22.fldS (f := 47) rfl rfl hy12 (o := 1) (by decide)
   refine za tok 9 ?_
   simp only [go_sem, qb, qa, qd, encGMessage, f16, f17]
   refine zn 9 (fun L τ => L = [(1, .op 0 0 0), (3, .int .i64 (IntKind.i64.wrap (x2 + (qc y12.fName : Int)))), (4, .int .i64 x3), (50, .bool ((decide (20 < (qc y12.fFields : Int))) || (decide (40 < (qc y12.fReserved : Int)))))] ∧ τ = ([.cells 0 (encGSchema a0)] : Store)) ?_ ?_
   · refine yH 41 rfl (fun hg41 => ?_) (fun hg41 => ?_)
     · have t18 := eq_true hg41
       refine za tok 9 ?_
       simp only [go_sem, qb, qa]
       refine zb ⟨rfl, _, _, ⟨rfl, rfl⟩, .p t18⟩
     have t19 := eq_false hg41
     have f20 := E22.idxS hy12
     have f21 := E22.fldS (f := 45) rfl rfl hy12 (o := 2) (by decide)
     refine za tok 9 ?_
     simp only [go_sem, qb, qa, qd, encGMessage, f20, f21]
     refine zb ⟨rfl, _, _, ⟨rfl, rfl⟩, .p t19⟩
   rintro _ _ ⟨rfl, rfl⟩
   refine zb ?_
   simp only [zd, qa, reduceIte, zk, zo]
   apply hK
   refine zt (b := ((decide (20 < (qc y12.fFields : Int))) || (decide (40 < (qc y12.fReserved : Int))))) rfl (fun hc22 => ?_) (fun hc22 => ?_)
   · rw [if_pos hc22] at h
     refine rg tok [2] fun K hK => ?_
     simp only [go_sem, qb, qa]
     apply hK
     refine zi ?_
     obtain rfl := Option.some.inj h
     exact yy
   rw [xK hc22] at h
   refine zf ?_
   apply hZ15
   refine rg tok [1, 3, 4, 5] fun K hK => ?_
   simp only [go_sem, qb, qa]
   apply hK
   refine zj ?_
   refine xz 0 rfl fun hb25 => ?_
   replace hb25 := vbq hb25.2.1.2 hy12
   replace hb25 : qc y12.fFields ≤ 9223372036854775807 := hb25.2.1.1
   refine zB (fun m L τ => ∃ (p25 q25 : List GField) (x23 : Int), m = qc q25 ∧ L = [(1, .op 0 0 0), (3, .int .i64 (IntKind.i64.wrap (x2 + (qc y12.fName : Int)))), (4, .int .i64 x3), (5, .int .i64 x23)] ∧ τ = ([.cells 0 (encGSchema a0)] : Store) ∧ y12.fFields = p25 ++ q25 ∧ x23 = (qc p25 : Int) ∧ zK.l25 x2 x3 (zK.l6 a0 k6) y12 q25 x23 = some r) _ ⟨[], y12.fFields, 0, rfl, rfl, rfl, rfl, rfl, h⟩ .s ?_
   rintro m L τ ⟨p25, q25, x23, rfl, rfl, rfl, hE25, hi25, h⟩
   rcases q25 with _ | ⟨y25, q25⟩
   · have hz25 := yC hE25 hi25
     simp only [zK.l25] at h
     refine ze fun Z26 hZ26 => ?_
     have f27 := E22.idxS hy12
     have f28 := E22.fldS (f := 47) rfl rfl hy12 (o := 1) (by decide)
     refine rg tok [1, 3, 4, 5, 59] fun K hK => ?_
     simp only [go_sem, qb, qa, qd, encGMessage, hz25, f27, f28]
     apply hK
     refine zx rfl ?_
     refine zJ ?_
     apply hZ11
     refine rgE tok [1, 3, 4] fun K hK => ?_
     simp only [go_sem, qb, qa]
     apply hK
     exact ⟨_, _, _, qw (0 + k6), ⟨k6, IntKind.i64.wrap (x2 + (qc y12.fName : Int)), IntKind.i64.wrap (x3 + 1), rfl, rfl, rfl, h⟩, .s⟩
   obtain ⟨hz25, hw25, hx25, hE'25, hi'25⟩ := ye hE25 hi25 hb25
   simp only [zK.l25] at h
   refine ze fun Z29 hZ29 => ?_
   have f30 := E22.idxS hy12
   have f31 := E22.fldS (f := 47) rfl rfl hy12 (o := 1) (by decide)
   refine rg tok [1, 3, 4, 5, 59] fun K hK => ?_
   simp only [go_sem, qb, qa, qd, encGMessage, hz25, f30, f31]
   apply hK
   refine zA rfl ?_
   refine zf ?_
   apply hZ29
   refine ze fun Z32 hZ32 => ?_
   refine zj ?_
   have f33 := E22.idxS hy12
   have f34 := E22.fldS (f := 47) rfl rfl hy12 (o := 1) (by decide)
   have f35 := E47.idxS hx25
   have f36 := E47.loadS rfl rfl hx25
   refine rg tok [1, 3, 4, 5, 6] fun K hK => ?_
   simp only [go_sem, qb, qe, qa, qd, encGField, encGMessage, f33, f34, f35, f36]
   apply hK
   refine rc [1, 3, 4, 5, 81] fun K hK => ?_
   refine za tok 5 ?_
   simp only [go_sem, qb, qa, qd]
   refine zn 6 (fun L τ => L = [(1, .op 0 0 0), (3, .int .i64 (IntKind.i64.wrap (x2 + (qc y12.fName : Int)))), (4, .int .i64 x3), (5, .int .i64 x23), (81, .bool ((decide (200 < (qc y25.fName : Int))) || (decide (200 < (qc y25.fType.fName : Int)))))] ∧ τ = ([.cells 0 (encGSchema a0), .cells 0 (encGField y25)] : Store)) ?_ ?_
   · refine yH 75 rfl (fun hg75 => ?_) (fun hg75 => ?_)
     · have t37 := eq_true hg75
       refine za tok 6 ?_
       simp only [go_sem, qb, qa]
       refine zb ⟨rfl, _, _, ⟨rfl, rfl⟩, .p t37⟩
     have t38 := eq_false hg75
     refine za tok 6 ?_
     simp only [go_sem, qb, qa, qd]
     refine zb ⟨rfl, _, _, ⟨rfl, rfl⟩, .p t38⟩
   rintro _ _ ⟨rfl, rfl⟩
   refine zb ?_
   simp only [zd, qa, reduceIte, zk, zo]
   apply hK
   refine zt (b := ((decide (200 < (qc y25.fName : Int))) || (decide (200 < (qc y25.fType.fName : Int))))) rfl (fun hc39 => ?_) (fun hc39 => ?_)
   · rw [if_pos hc39] at h
     refine rg tok [2] fun K hK => ?_
     simp only [go_sem, qb, qa]
     apply hK
     refine zi ?_
     obtain rfl := Option.some.inj h
     exact yy
   rw [xK hc39] at h
   refine zf ?_
   apply hZ32
   refine rgE tok [1, 3, 4, 5] fun K hK => ?_
   simp only [go_sem, qb, qa, hw25]
   apply hK
   exact ⟨_, _, _, qw q25.length, ⟨p25 ++ [y25], q25, x23 + 1, rfl, rfl, rfl, hE'25, hi'25, h⟩, (.t [0] false)⟩
 rw [xK hc10] at h
 refine zJ ?_
 apply hZ1
 refine ze fun Z40 hZ40 => ?_
 refine rg tok [1, 3, 7] fun K hK => ?_
 simp only [go_sem, qb, qa]
 apply hK
 refine zj ?_
 refine zB (fun m L τ => ∃ (k43 : Nat) (x41 : Int), m = 0 + k43 ∧ L = [(1, .op 0 0 0), (3, .int .i64 x2), (7, .int .i64 x41)] ∧ τ = ([.cells 0 (encGSchema a0)] : Store) ∧ zK.l43 a0 x2 k43 x41 = some r) _ ⟨rounds, 0, rfl, rfl, rfl, h⟩ .s ?_
 rintro m L τ ⟨k43, x41, rfl, rfl, rfl, h⟩
 rcases k43 with _ | k43
 · cases h
 simp only [zK.l43] at h
 refine ze fun Z44 hZ44 => ?_
 refine rc [1, 3, 7, 90] fun K hK => ?_
 refine za tok 6 ?_
 simp only [go_sem, qb, qa, qd]
 refine zn 3 (fun L τ => L = [(1, .op 0 0 0), (3, .int .i64 x2), (7, .int .i64 x41), (90, .bool ((decide (x41 < (qc a0.fEnums : Int))) && (decide (x41 < 20))))] ∧ τ = ([.cells 0 (encGSchema a0)] : Store)) ?_ ?_
 · refine yH 87 rfl (fun hg87 => ?_) (fun hg87 => ?_)
   · have t45 := eq_true hg87
     refine za tok 3 ?_
     simp only [go_sem, qb, qa]
     refine zb ⟨rfl, _, _, ⟨rfl, rfl⟩, .p t45⟩
   have t46 := eq_false hg87
   refine za tok 3 ?_
   simp only [go_sem, qb, qa]
   refine zb ⟨rfl, _, _, ⟨rfl, rfl⟩, .p t46⟩
 rintro _ _ ⟨rfl, rfl⟩
 refine zb ?_
 simp only [zd, qa, reduceIte, zk, zo]
 apply hK
 refine zt (b := ((decide (x41 < (qc a0.fEnums : Int))) && (decide (x41 < 20)))) rfl (fun hc47 => ?_) (fun hc47 => ?_)
 · rw [if_pos hc47] at h
   refine zf ?_
   apply hZ44
   refine ze fun Z48 hZ48 => ?_
   refine zj ?_
   refine ze fun Z49 hZ49 => ?_
   refine rc [1, 3, 7, 110] fun K hK => ?_
   obtain ⟨y50, hy50, h⟩ := bind_some h
   have f51 := E23.idxS hy50
   have f52 := E23.fldS0 (f := 9) rfl rfl hy50
   refine za tok 9 ?_
   simp only [go_sem, qb, qa, qd, encGEnumeration, f51, f52]
   refine zn 9 (fun L τ => L = [(1, .op 0 0 0), (3, .int .i64 x2), (7, .int .i64 x41), (110, .bool ((decide (200 < (qc y50.fName : Int))) || (decide (24 < (qc y50.fValues : Int)))))] ∧ τ = ([.cells 0 (encGSchema a0)] : Store)) ?_ ?_
   · refine yH 101 rfl (fun hg101 => ?_) (fun hg101 => ?_)
     · have t53 := eq_true hg101
       refine za tok 9 ?_
       simp only [go_sem, qb, qa]
       refine zb ⟨rfl, _, _, ⟨rfl, rfl⟩, .p t53⟩
     have t54 := eq_false hg101
     have f55 := E23.idxS hy50
     have f56 := E23.fldS (f := 82) rfl rfl hy50 (o := 1) (by decide)
     refine za tok 9 ?_
     simp only [go_sem, qb, qa, qd, encGEnumeration, f55, f56]
     refine zb ⟨rfl, _, _, ⟨rfl, rfl⟩, .p t54⟩
   rintro _ _ ⟨rfl, rfl⟩
   refine zb ?_
   simp only [zd, qa, reduceIte, zk, zo]
   apply hK
   refine zt (b := ((decide (200 < (qc y50.fName : Int))) || (decide (24 < (qc y50.fValues : Int))))) rfl (fun hc57 => ?_) (fun hc57 => ?_)
   · rw [if_pos hc57] at h
     refine rg tok [2] fun K hK => ?_
     simp only [go_sem, qb, qa]
     apply hK
     refine zi ?_
     obtain rfl := Option.some.inj h
     exact yy
   rw [xK hc57] at h
   refine zf ?_
   apply hZ49
   refine rg tok [1, 3, 7, 8] fun K hK => ?_
   simp only [go_sem, qb, qa]
   apply hK
   refine zj ?_
   refine xz 0 rfl fun hb60 => ?_
   replace hb60 := vbq hb60.2.2.1.2 hy50
   replace hb60 : qc y50.fValues ≤ 9223372036854775807 := hb60.2.1.1
   refine zB (fun m L τ => ∃ (p60 q60 : List GNamed) (x58 : Int), m = qc q60 ∧ L = [(1, .op 0 0 0), (3, .int .i64 x2), (7, .int .i64 x41), (8, .int .i64 x58)] ∧ τ = ([.cells 0 (encGSchema a0)] : Store) ∧ y50.fValues = p60 ++ q60 ∧ x58 = (qc p60 : Int) ∧ zK.l60 x41 (zK.l43 a0 x2 k43) q60 x58 = some r) _ ⟨[], y50.fValues, 0, rfl, rfl, rfl, rfl, rfl, h⟩ .s ?_
   rintro m L τ ⟨p60, q60, x58, rfl, rfl, rfl, hE60, hi60, h⟩
   rcases q60 with _ | ⟨y60, q60⟩
   · have hz60 := yC hE60 hi60
     simp only [zK.l60] at h
     refine ze fun Z61 hZ61 => ?_
     have f62 := E23.idxS hy50
     have f63 := E23.fldS (f := 82) rfl rfl hy50 (o := 1) (by decide)
     refine rg tok [1, 3, 7, 8, 119] fun K hK => ?_
     simp only [go_sem, qb, qa, qd, encGEnumeration, hz60, f62, f63]
     apply hK
     refine zx rfl ?_
     refine zJ ?_
     apply hZ48
     refine rgE tok [1, 3, 7] fun K hK => ?_
     simp only [go_sem, qb, qa]
     apply hK
     exact ⟨_, _, _, qw (0 + k43), ⟨k43, IntKind.i64.wrap (x41 + 1), rfl, rfl, rfl, h⟩, .s⟩
   obtain ⟨hz60, hw60, hx60, hE'60, hi'60⟩ := ye hE60 hi60 hb60
   simp only [zK.l60] at h
   refine ze fun Z64 hZ64 => ?_
   have f65 := E23.idxS hy50
   have f66 := E23.fldS (f := 82) rfl rfl hy50 (o := 1) (by decide)
   refine rg tok [1, 3, 7, 8, 119] fun K hK => ?_
   simp only [go_sem, qb, qa, qd, encGEnumeration, hz60, f65, f66]
   apply hK
   refine zA rfl ?_
   refine zf ?_
   apply hZ64
   refine ze fun Z67 hZ67 => ?_
   refine zj ?_
   have f68 := E23.idxS hy50
   have f69 := E23.fldS (f := 82) rfl rfl hy50 (o := 1) (by decide)
   have f70 := E82.idxS hx60
   have f71 := E82.fldS0 (f := 9) rfl rfl hx60
   refine rg tok [1, 3, 7, 8, 133] fun K hK => ?_
   simp only [go_sem, qb, qa, qd, encGEnumeration, encGNamed, f68, f69, f70, f71]
   apply hK
   refine zI rfl (fun hc72 => ?_) (fun hc72 => ?_)
   · rw [if_pos hc72] at h
     have t73 := eq_true hc72
     refine rg tok [2] fun K hK => ?_
     simp only [go_sem, qb, qa, t73]
     apply hK
     refine zi ?_
     obtain rfl := Option.some.inj h
     exact yy
   rw [if_neg hc72] at h
   have t74 := eq_false hc72
   refine zf ?_
   apply hZ67
   refine rgE tok [1, 3, 7, 8] fun K hK => ?_
   simp only [go_sem, qb, qa, hw60, t74]
   apply hK
   exact ⟨_, _, _, qw q60.length, ⟨p60 ++ [y60], q60, x58 + 1, rfl, rfl, rfl, hE'60, hi'60, h⟩, .s⟩
 rw [xK hc47] at h
 refine zJ ?_
 apply hZ40
 refine ze fun Z75 hZ75 => ?_
 refine rg tok [1, 3, 9] fun K hK => ?_
 simp only [go_sem, qb, qa]
 apply hK
 refine zj ?_
 refine zB (fun m L τ => ∃ (k78 : Nat) (x76 : Int), m = 0 + k78 ∧ L = [(1, .op 0 0 0), (3, .int .i64 x2), (9, .int .i64 x76)] ∧ τ = ([.cells 0 (encGSchema a0)] : Store) ∧ zK.l78 a0 x2 k78 x76 = some r) _ ⟨rounds, 0, rfl, rfl, rfl, h⟩ .s ?_
 rintro m L τ ⟨k78, x76, rfl, rfl, rfl, h⟩
 rcases k78 with _ | k78
 · cases h
 simp only [zK.l78] at h
 refine ze fun Z79 hZ79 => ?_
 refine rc [1, 3, 9, 142] fun K hK => ?_
 refine za tok 6 ?_
 simp only [go_sem, qb, qa, qd]
 refine zn 3 (fun L τ => L = [(1, .op 0 0 0), (3, .int .i64 x2), (9, .int .i64 x76), (142, .bool ((decide (x76 < (qc a0.fMethods : Int))) && (decide (x76 < 20))))] ∧ τ = ([.cells 0 (encGSchema a0)] : Store)) ?_ ?_
 · refine yH 139 rfl (fun hg139 => ?_) (fun hg139 => ?_)
   · have t80 := eq_true hg139
     refine za tok 3 ?_
     simp only [go_sem, qb, qa]
     refine zb ⟨rfl, _, _, ⟨rfl, rfl⟩, .p t80⟩
   have t81 := eq_false hg139
   refine za tok 3 ?_
   simp only [go_sem, qb, qa]
   refine zb ⟨rfl, _, _, ⟨rfl, rfl⟩, .p t81⟩
 rintro _ _ ⟨rfl, rfl⟩
 refine zb ?_
 simp only [zd, qa, reduceIte, zk, zo]
 apply hK
 refine zt (b := ((decide (x76 < (qc a0.fMethods : Int))) && (decide (x76 < 20)))) rfl (fun hc82 => ?_) (fun hc82 => ?_)
 · rw [if_pos hc82] at h
   refine zf ?_
   apply hZ79
   refine ze fun Z83 hZ83 => ?_
   refine zj ?_
   refine rc [1, 3, 9, 172] fun K hK => ?_
   obtain ⟨y84, hy84, h⟩ := bind_some h
   have f85 := E24.idxS hy84
   have f86 := E24.fldS0 (f := 9) rfl rfl hy84
   refine za tok 9 ?_
   simp only [go_sem, qb, qa, qd, encGMethod, f85, f86]
   refine zn 9 (fun L τ => L = [(1, .op 0 0 0), (3, .int .i64 x2), (9, .int .i64 x76), (162, .bool ((decide (200 < (qc y84.fName : Int))) || (decide (200 < (qc y84.fIn : Int)))))] ∧ τ = ([.cells 0 (encGSchema a0)] : Store)) ?_ ?_
   · refine yH 153 rfl (fun hg153 => ?_) (fun hg153 => ?_)
     · have t87 := eq_true hg153
       refine za tok 9 ?_
       simp only [go_sem, qb, qa]
       refine zb ⟨rfl, _, _, ⟨rfl, rfl⟩, .p t87⟩
     have t88 := eq_false hg153
     have f89 := E24.idxS hy84
     have f90 := E24.fldS (f := 9) rfl rfl hy84 (o := 1) (by decide)
     refine za tok 9 ?_
     simp only [go_sem, qb, qa, qd, encGMethod, f89, f90]
     refine zb ⟨rfl, _, _, ⟨rfl, rfl⟩, .p t88⟩
   rintro _ _ ⟨rfl, rfl⟩
   refine za tok 1 ?_
   simp only [go_sem, qb, qa]
   refine zn 9 (fun L τ => L = [(1, .op 0 0 0), (3, .int .i64 x2), (9, .int .i64 x76), (172, .bool (((decide (200 < (qc y84.fName : Int))) || (decide (200 < (qc y84.fIn : Int)))) || (decide (200 < (qc y84.fOut : Int)))))] ∧ τ = ([.cells 0 (encGSchema a0)] : Store)) ?_ ?_
   · refine zQ (b := ((decide (200 < (qc y84.fName : Int))) || (decide (200 < (qc y84.fIn : Int))))) 163 rfl (fun hg163 => ?_) (fun hg163 => ?_)
     · refine za tok 9 ?_
       simp only [go_sem, qb, qa]
       refine zb ⟨rfl, _, _, ⟨rfl, rfl⟩, .b hg163⟩
     have f91 := E24.idxS hy84
     have f92 := E24.fldS (f := 9) rfl rfl hy84 (o := 2) (by decide)
     refine za tok 9 ?_
     simp only [go_sem, qb, qa, qd, encGMethod, f91, f92]
     refine zb ⟨rfl, _, _, ⟨rfl, rfl⟩, .b hg163⟩
   rintro _ _ ⟨rfl, rfl⟩
   refine zb ?_
   simp only [zd, qa, reduceIte, zk, zo]
   apply hK
   refine zt (b := (((decide (200 < (qc y84.fName : Int))) || (decide (200 < (qc y84.fIn : Int)))) || (decide (200 < (qc y84.fOut : Int))))) rfl (fun hc93 => ?_) (fun hc93 => ?_)
   · rw [if_pos hc93] at h
     refine rg tok [2] fun K hK => ?_
     simp only [go_sem, qb, qa]
     apply hK
     refine zi ?_
     obtain rfl := Option.some.inj h
     exact yy
   rw [xK hc93] at h
   refine zf ?_
   apply hZ83
   refine rgE tok [1, 3, 9] fun K hK => ?_
   simp only [go_sem, qb, qa]
   apply hK
   exact ⟨_, _, _, qw (0 + k78), ⟨k78, IntKind.i64.wrap (x76 + 1), rfl, rfl, rfl, h⟩, .s⟩
 rw [xK hc82] at h
 refine zJ ?_
 apply hZ75
 refine rc [2] fun K hK => ?_
 refine za tok 3 ?_
 simp only [go_sem, qb, qa]
 refine zn 5 (fun L τ => L = [(1, .op 0 0 0), (180, .bool ((decide (x2 < 3000)) && (decide ((qc a0.fMessages : Int) ≤ 14))))] ∧ τ = ([.cells 0 (encGSchema a0)] : Store)) ?_ ?_
 · refine yH 175 rfl (fun hg175 => ?_) (fun hg175 => ?_)
   · have t94 := eq_true hg175
     refine za tok 5 ?_
     simp only [go_sem, qb, qa, qd]
     refine zb ⟨rfl, _, _, ⟨rfl, rfl⟩, .p t94⟩
   have t95 := eq_false hg175
   refine za tok 5 ?_
   simp only [go_sem, qb, qa]
   refine zb ⟨rfl, _, _, ⟨rfl, rfl⟩, .p t95⟩
 rintro _ _ ⟨rfl, rfl⟩
 refine za tok 1 ?_
 simp only [go_sem, qb, qa]
 refine zn 5 (fun L τ => L = [(1, .op 0 0 0), (186, .bool (((decide (x2 < 3000)) && (decide ((qc a0.fMessages : Int) ≤ 14))) && (decide ((qc a0.fEnums : Int) ≤ 10))))] ∧ τ = ([.cells 0 (encGSchema a0)] : Store)) ?_ ?_
 · refine zQ (b := ((decide (x2 < 3000)) && (decide ((qc a0.fMessages : Int) ≤ 14)))) 181 rfl (fun hg181 => ?_) (fun hg181 => ?_)
   · refine za tok 5 ?_
     simp only [go_sem, qb, qa, qd]
     refine zb ⟨rfl, _, _, ⟨rfl, rfl⟩, .b hg181⟩
   refine za tok 5 ?_
   simp only [go_sem, qb, qa]
   refine zb ⟨rfl, _, _, ⟨rfl, rfl⟩, .b hg181⟩
 rintro _ _ ⟨rfl, rfl⟩
 refine za tok 1 ?_
 simp only [go_sem, qb, qa]
 refine zn 5 (fun L τ => L = [(192, .bool ((((decide (x2 < 3000)) && (decide ((qc a0.fMessages : Int) ≤ 14))) && (decide ((qc a0.fEnums : Int) ≤ 10))) && (decide ((qc a0.fMethods : Int) ≤ 10))))] ∧ τ = ([.cells 0 (encGSchema a0)] : Store)) ?_ ?_
 · refine zQ (b := (((decide (x2 < 3000)) && (decide ((qc a0.fMessages : Int) ≤ 14))) && (decide ((qc a0.fEnums : Int) ≤ 10)))) 187 rfl (fun hg187 => ?_) (fun hg187 => ?_)
   · refine za tok 5 ?_
     simp only [go_sem, qb, qa, qd]
     refine zb ⟨rfl, _, _, ⟨rfl, rfl⟩, .b hg187⟩
   refine za tok 5 ?_
   simp only [go_sem, qb, qa]
   refine zb ⟨rfl, _, _, ⟨rfl, rfl⟩, .b hg187⟩
 rintro _ _ ⟨rfl, rfl⟩
 refine za tok 1 ?_
 simp only [go_sem, qb]
 refine zb ?_
 simp only [zd, upd, qa, reduceIte, zk, zo]
 apply hK
 refine zi ?_
 obtain rfl := Option.some.inj h
 exact yy
theorem zK.ev (a0 : GSchema) (r : Bool) (h : zK a0 = some r) (σ : Store) : ACalls qh 11 [.agg (encGSchema a0)] σ (fun r' σ' => r' = .bool r ∧ σ' = σ) :=
 (zK.ok a0 r h).c σ
def yI.l9 (a0 : List UInt8) : Nat → Nat → Int → Option Int
 | 0, _, _ => none
 | k9 + 1, p5, x6 => (if p5 < qc a0 then ((yI.l9 a0 k9) (p5 + (Ya a0 p5).2) (IntKind.i64.wrap (x6 + 1))) else some x6)
def yI (a0 : List UInt8) : Option Int :=
 (yz a0).bind fun r2 => (if (!r2) = true then some 0 else (yI.l9 a0 rounds 0 0))
theorem yI.ok (a0 : List UInt8) (r : Int) (h : yI a0 = some r) : ACalls qh 102 [.str a0] [] (fun r' _ => r' = .int .i64 r) := by
 refine zm (rs := [.tmp 2]) tok Tryz.func102 rfl Tryz.ntmps102 rfl Tryz.call102 (by simp) ?_
 refine zq [(0, .str a0)] ⟨rfl, trivial⟩ ?_
 unfold yI at h
 refine rg tok [0] fun K hK => ?_
 simp only [go_sem, qb, reduceCtorEq]
 apply hK
 refine ze fun Z1 hZ1 => ?_
 refine rc [0, 6] fun K hK => ?_
 obtain ⟨r2, hr2, h⟩ := bind_some h
 refine za tok 1 ?_
 simp only [go_sem, qb]
 refine zh rfl rfl rfl (yz.ev a0 r2 hr2 _) ?_
 rintro _ _ ⟨rfl, rfl⟩
 refine za tok 1 ?_
 simp only [go_sem, qb, qa, reduceCtorEq]
 refine zb ?_
 simp only [zd, upd, qa, reduceIte, zk, zo]
 apply hK
 refine zt (b := (!r2)) rfl (fun hc3 => ?_) (fun hc3 => ?_)
 · rw [if_pos hc3] at h
   refine rg tok [2] fun K hK => ?_
   simp only [go_sem, qb, qa, reduceCtorEq]
   apply hK
   refine zi ?_
   obtain rfl := Option.some.inj h
   exact yy
 rw [xK hc3] at h
 refine zf ?_
 apply hZ1
 refine rg tok [0, 3] fun K hK => ?_
 simp only [go_sem, qb, qa, reduceCtorEq]
 apply hK
 refine ze fun Z4 hZ4 => ?_
 refine rg tok [3, 8] fun K hK => ?_
 simp only [go_sem, qb, qa, reduceCtorEq]
 apply hK
 refine zj ?_
 refine zB (fun m L τ => ∃ (k9 : Nat) (p5 : Nat) (x6 : Int), m = 0 + k9 ∧ L = [(3, .int .i64 x6), (8, .it 0)] ∧ τ = ([.iter a0 p5] : Store) ∧ yI.l9 a0 k9 p5 x6 = some r) _ ⟨rounds, 0, 0, rfl, rfl, rfl, h⟩ .s ?_
 rintro m L τ ⟨k9, p5, x6, rfl, rfl, rfl, h⟩
 rcases k9 with _ | k9
 · cases h
 simp only [yI.l9] at h
 by_cases hn10 : p5 < qc a0
 · rw [if_pos hn10] at h
   have t11 := eq_true hn10
   refine rg tok [3, 8, 10] fun K hK => ?_
   simp only [go_sem, qb, qa, qd, XK, if_true, if_false, t11]
   apply hK
   refine ze fun Z12 hZ12 => ?_
   refine zA rfl ?_
   refine zf ?_
   apply hZ12
   refine zj ?_
   refine rgE tok [3, 8] fun K hK => ?_
   simp only [go_sem, qb, qa]
   apply hK
   exact ⟨_, _, _, qw (0 + k9), ⟨k9, p5 + (Ya a0 p5).2, IntKind.i64.wrap (x6 + 1), rfl, rfl, rfl, h⟩, .s⟩
 rw [if_neg hn10] at h
 have t13 := eq_false hn10
 refine rg tok [3, 8, 10] fun K hK => ?_
 simp only [go_sem, qb, qa, XK, if_true, if_false, t13]
 apply hK
 refine ze fun Z14 hZ14 => ?_
 refine zx rfl ?_
 refine zJ ?_
 apply hZ4
 refine rg tok [2] fun K hK => ?_
 simp only [go_sem, qb, qa]
 apply hK
 refine zi ?_
 obtain rfl := Option.some.inj h
 exact yy
theorem yI.ev (a0 : List UInt8) (r : Int) (h : yI a0 = some r) (σ : Store) : ACalls qh 102 [.str a0] σ (fun r' σ' => r' = .int .i64 r ∧ σ' = σ) :=
 (yI.ok a0 r h).c σ
def xa.j3 (x2 : Bool) : Bool :=
 (if x2 = true then true else false)
def xa (a0 : List UInt8) : Bool :=
 (if a0 = [115, 99, 104, 101, 109, 97] then (xa.j3 (decide (a0 = [115, 99, 104, 101, 109, 97]))) else (if a0 = [109, 101, 115, 115, 97, 103, 101] then (xa.j3 (decide (a0 = [109, 101, 115, 115, 97, 103, 101]))) else (if a0 = [101, 110, 117, 109] then (xa.j3 (decide (a0 = [101, 110, 117, 109]))) else (if a0 = [99, 97, 108, 108] then (xa.j3 (decide (a0 = [99, 97, 108, 108]))) else (if a0 = [114, 101, 116, 117, 114, 110, 115] then (xa.j3 (decide (a0 = [114, 101, 116, 117, 114, 110, 115]))) else (if a0 = [114, 101, 115, 101, 114, 118, 101, 100] then (xa.j3 (decide (a0 = [114, 101, 115, 101, 114, 118, 101, 100]))) else (if a0 = [111, 112, 116, 105, 111, 110, 97, 108] then (xa.j3 (decide (a0 = [111, 112, 116, 105, 111, 110, 97, 108]))) else (if a0 = [114, 101, 112, 101, 97, 116, 101, 100] then (xa.j3 (decide (a0 = [114, 101, 112, 101, 97, 116, 101, 100]))) else (if a0 = [105, 110, 116, 51, 50] then (xa.j3 (decide (a0 = [105, 110, 116, 51, 50]))) else (if a0 = [105, 110, 116, 54, 52] then (xa.j3 (decide (a0 = [105, 110, 116, 54, 52]))) else (if a0 = [98, 111, 111, 108] then (xa.j3 (decide (a0 = [98, 111, 111, 108]))) else (if a0 = [116, 101, 120, 116] then (xa.j3 (decide (a0 = [116, 101, 120, 116]))) else (xa.j3 (decide (a0 = [98, 121, 116, 101, 115])))))))))))))))
theorem xa.ok (a0 : List UInt8) (r : Bool) (h : xa a0 = r) : ACalls qh 103 [.str a0] [] (fun r' _ => r' = .bool r) := by
 refine zm (rs := [.tmp 2]) tok Tryz.func103 rfl Tryz.ntmps103 rfl Tryz.call103 (by simp) ?_
 refine zq [(0, .str a0)] ⟨rfl, trivial⟩ ?_
 unfold xa at h
 refine rg tok [0] fun K hK => ?_
 simp only [go_sem, qb, reduceCtorEq]
 apply hK
 refine ze fun Z1 hZ1 => ?_
 refine rg tok [3] fun K hK => ?_
 simp only [go_sem, qb, reduceCtorEq]
 apply hK
 refine zj ?_
 refine xN (fun L τ => ∃ (x2 : Bool), L = [(4, .bool x2)] ∧ τ = ([] : Store) ∧ xa.j3 x2 = r) ?_ ?_
 · refine rg tok [3, 4] fun K hK => ?_
   simp only [go_sem, qb, qa]
   apply hK
   refine zI rfl (fun hc5 => ?_) (fun hc5 => ?_)
   · rw [if_pos hc5] at h
     have t6 := eq_true hc5
     refine zf ?_
     exact ⟨_, _, ⟨decide (a0 = [115, 99, 104, 101, 109, 97]), rfl, rfl, h⟩, .s⟩
   rw [if_neg hc5] at h
   have t7 := eq_false hc5
   refine rg tok [3, 4] fun K hK => ?_
   simp only [go_sem, qb, qa, t7]
   apply hK
   refine zI rfl (fun hc8 => ?_) (fun hc8 => ?_)
   · rw [if_pos hc8] at h
     have t9 := eq_true hc8
     refine zf ?_
     exact ⟨_, _, ⟨decide (a0 = [109, 101, 115, 115, 97, 103, 101]), rfl, rfl, h⟩, .s⟩
   rw [if_neg hc8] at h
   have t10 := eq_false hc8
   refine rg tok [3, 4] fun K hK => ?_
   simp only [go_sem, qb, qa, t10]
   apply hK
   refine zI rfl (fun hc11 => ?_) (fun hc11 => ?_)
   · rw [if_pos hc11] at h
     have t12 := eq_true hc11
     refine zf ?_
     exact ⟨_, _, ⟨decide (a0 = [101, 110, 117, 109]), rfl, rfl, h⟩, .s⟩
   rw [if_neg hc11] at h
   have t13 := eq_false hc11
   refine rg tok [3, 4] fun K hK => ?_
   simp only [go_sem, qb, qa, t13]
   apply hK
   refine zI rfl (fun hc14 => ?_) (fun hc14 => ?_)
   · rw [if_pos hc14] at h
     have t15 := eq_true hc14
     refine zf ?_
     exact ⟨_, _, ⟨decide (a0 = [99, 97, 108, 108]), rfl, rfl, h⟩, .s⟩
   rw [if_neg hc14] at h
   have t16 := eq_false hc14
   refine rg tok [3, 4] fun K hK => ?_
   simp only [go_sem, qb, qa, t16]
   apply hK
   refine zI rfl (fun hc17 => ?_) (fun hc17 => ?_)
   · rw [if_pos hc17] at h
     have t18 := eq_true hc17
     refine zf ?_
     exact ⟨_, _, ⟨decide (a0 = [114, 101, 116, 117, 114, 110, 115]), rfl, rfl, h⟩, .s⟩
   rw [if_neg hc17] at h
   have t19 := eq_false hc17
   refine rg tok [3, 4] fun K hK => ?_
   simp only [go_sem, qb, qa, t19]
   apply hK
   refine zI rfl (fun hc20 => ?_) (fun hc20 => ?_)
   · rw [if_pos hc20] at h
     have t21 := eq_true hc20
     refine zf ?_
     exact ⟨_, _, ⟨decide (a0 = [114, 101, 115, 101, 114, 118, 101, 100]), rfl, rfl, h⟩, .s⟩
   rw [if_neg hc20] at h
   have t22 := eq_false hc20
   refine rg tok [3, 4] fun K hK => ?_
   simp only [go_sem, qb, qa, t22]
   apply hK
   refine zI rfl (fun hc23 => ?_) (fun hc23 => ?_)
   · rw [if_pos hc23] at h
     have t24 := eq_true hc23
     refine zf ?_
     exact ⟨_, _, ⟨decide (a0 = [111, 112, 116, 105, 111, 110, 97, 108]), rfl, rfl, h⟩, .s⟩
   rw [if_neg hc23] at h
   have t25 := eq_false hc23
   refine rg tok [3, 4] fun K hK => ?_
   simp only [go_sem, qb, qa, t25]
   apply hK
   refine zI rfl (fun hc26 => ?_) (fun hc26 => ?_)
   · rw [if_pos hc26] at h
     have t27 := eq_true hc26
     refine zf ?_
     exact ⟨_, _, ⟨decide (a0 = [114, 101, 112, 101, 97, 116, 101, 100]), rfl, rfl, h⟩, .s⟩
   rw [if_neg hc26] at h
   have t28 := eq_false hc26
   refine rg tok [3, 4] fun K hK => ?_
   simp only [go_sem, qb, qa, t28]
   apply hK
   refine zI rfl (fun hc29 => ?_) (fun hc29 => ?_)
   · rw [if_pos hc29] at h
     have t30 := eq_true hc29
     refine zf ?_
     exact ⟨_, _, ⟨decide (a0 = [105, 110, 116, 51, 50]), rfl, rfl, h⟩, .s⟩
   rw [if_neg hc29] at h
   have t31 := eq_false hc29
   refine rg tok [3, 4] fun K hK => ?_
   simp only [go_sem, qb, qa, t31]
   apply hK
   refine zI rfl (fun hc32 => ?_) (fun hc32 => ?_)
   · rw [if_pos hc32] at h
     have t33 := eq_true hc32
     refine zf ?_
     exact ⟨_, _, ⟨decide (a0 = [105, 110, 116, 54, 52]), rfl, rfl, h⟩, .s⟩
   rw [if_neg hc32] at h
   have t34 := eq_false hc32
   refine rg tok [3, 4] fun K hK => ?_
   simp only [go_sem, qb, qa, t34]
   apply hK
   refine zI rfl (fun hc35 => ?_) (fun hc35 => ?_)
   · rw [if_pos hc35] at h
     have t36 := eq_true hc35
     refine zf ?_
     exact ⟨_, _, ⟨decide (a0 = [98, 111, 111, 108]), rfl, rfl, h⟩, .s⟩
   rw [if_neg hc35] at h
   have t37 := eq_false hc35
   refine rg tok [3, 4] fun K hK => ?_
   simp only [go_sem, qb, qa, t37]
   apply hK
   refine zI rfl (fun hc38 => ?_) (fun hc38 => ?_)
   · rw [if_pos hc38] at h
     have t39 := eq_true hc38
     refine zf ?_
     exact ⟨_, _, ⟨decide (a0 = [116, 101, 120, 116]), rfl, rfl, h⟩, .s⟩
   rw [if_neg hc38] at h
   have t40 := eq_false hc38
   refine rgE tok [4] fun K hK => ?_
   simp only [go_sem, qb, qa, t40]
   apply hK
   exact ⟨_, _, ⟨decide (a0 = [98, 121, 116, 101, 115]), rfl, rfl, h⟩, .s⟩
 rintro _ _ ⟨x2, rfl, rfl, h⟩
 unfold xa.j3 at h
 refine zt (b := x2) rfl (fun hc4 => ?_) (fun hc4 => ?_)
 · rw [if_pos hc4] at h
   refine rg tok [2] fun K hK => ?_
   simp only [go_sem, qb, qa]
   apply hK
   refine zi ?_
   obtain rfl := h
   exact yy
 rw [xK hc4] at h
 refine zf ?_
 apply hZ1
 refine rg tok [2] fun K hK => ?_
 simp only [go_sem, qb, qa]
 apply hK
 refine zi ?_
 obtain rfl := h
 exact yy
theorem xa.ev (a0 : List UInt8) (r : Bool) (h : xa a0 = r) (σ : Store) : ACalls qh 103 [.str a0] σ (fun r' σ' => r' = .bool r ∧ σ' = σ) :=
 (xa.ok a0 r h).c σ
def wh (a0 : Int) (a1 : Int) (a2 : Int) : Bool :=
 ((decide (a1 ≤ a0)) && (decide (a0 ≤ a2)))
theorem wh.ok (a0 : Int) (a1 : Int) (a2 : Int) (r : Bool) (h : wh a0 a1 a2 = r) : ACalls qh 139 [.int .i32 a0, .int .i32 a1, .int .i32 a2] [] (fun r' _ => r' = .bool r) := by
 refine zm (rs := [.tmp 6]) tok Tryz.func139 rfl Tryz.ntmps139 rfl Tryz.call139 (by simp) ?_
 refine zq [(0, .int .i32 a0), (1, .int .i32 a1), (2, .int .i32 a2)] ⟨rfl, rfl, rfl, trivial⟩ ?_
 unfold wh at h
 refine rg tok [0, 1, 2] fun K hK => ?_
 simp only [go_sem, qb, qa, reduceCtorEq]
 apply hK
 refine rc [6] fun K hK => ?_
 refine za tok 4 ?_
 simp only [go_sem, qb, qa, reduceCtorEq]
 refine zn 4 (fun L τ => L = [(14, .bool ((decide (a1 ≤ a0)) && (decide (a0 ≤ a2))))] ∧ τ = ([] : Store)) ?_ ?_
 · refine yH 10 rfl (fun hg10 => ?_) (fun hg10 => ?_)
   · have t1 := eq_true hg10
     refine za tok 4 ?_
     simp only [go_sem, qb, qa, reduceCtorEq]
     refine zb ⟨rfl, _, _, ⟨rfl, rfl⟩, .p t1⟩
   have t2 := eq_false hg10
   refine za tok 4 ?_
   simp only [go_sem, qb, qa, reduceCtorEq]
   refine zb ⟨rfl, _, _, ⟨rfl, rfl⟩, .p t2⟩
 rintro _ _ ⟨rfl, rfl⟩
 refine za tok 1 ?_
 simp only [go_sem, qb]
 refine zb ?_
 simp only [zd, upd, qa, reduceIte, zk, zo]
 apply hK
 refine zi ?_
 obtain rfl := h
 exact yy
theorem wh.ev (a0 : Int) (a1 : Int) (a2 : Int) (r : Bool) (h : wh a0 a1 a2 = r) (σ : Store) : ACalls qh 139 [.int .i32 a0, .int .i32 a1, .int .i32 a2] σ (fun r' σ' => r' = .bool r ∧ σ' = σ) :=
 (wh.ok a0 a1 a2 r h).c σ
def yY.j6 (a0 : Int) (x5 : Bool) : Bool :=
 (if x5 = true then false else bnd (wh a0 97 122) fun r8 => bnd (if r8 = true then true else bnd (wh a0 65 90) fun r9 => r9) fun c9 => bnd (if c9 = true then true else bnd (wh a0 192 591) fun r11 => r11) fun c11 => bnd (if c11 = true then true else bnd (wh a0 913 969) fun r13 => r13) fun c13 => c13)
def yY (a0 : Int) : Bool :=
 (if a0 = 95 then true else (if a0 = 215 then (yY.j6 a0 (decide (a0 = 215))) else (if a0 = 247 then (yY.j6 a0 (decide (a0 = 247))) else (yY.j6 a0 (decide (a0 = 930))))))
theorem yY.ok (a0 : Int) (r : Bool) (h : yY a0 = r) : ACalls qh 104 [.int .i32 a0] [] (fun r' _ => r' = .bool r) := by
 refine zm (rs := [.tmp 2]) tok Tryz.func104 rfl Tryz.ntmps104 rfl Tryz.call104 (by simp) ?_
 refine zq [(0, .int .i32 a0)] ⟨rfl, trivial⟩ ?_
 unfold yY at h
 refine rg tok [0] fun K hK => ?_
 simp only [go_sem, qb, reduceCtorEq]
 apply hK
 refine ze fun Z1 hZ1 => ?_
 refine rg tok [0, 3] fun K hK => ?_
 simp only [go_sem, qb, reduceCtorEq]
 apply hK
 refine zj ?_
 refine rg tok [0, 3, 4] fun K hK => ?_
 simp only [go_sem, qb, qa, reduceCtorEq]
 apply hK
 refine zI rfl (fun hc2 => ?_) (fun hc2 => ?_)
 · rw [if_pos hc2] at h
   have t3 := eq_true hc2
   refine rg tok [2] fun K hK => ?_
   simp only [go_sem, qb, qa, reduceCtorEq, t3]
   apply hK
   refine zi ?_
   obtain rfl := h
   exact yy
 rw [if_neg hc2] at h
 have t4 := eq_false hc2
 refine xN (fun L τ => ∃ (x5 : Bool), L = [(0, .int .i32 a0), (6, .bool x5)] ∧ τ = ([] : Store) ∧ yY.j6 a0 x5 = r) ?_ ?_
 · refine rg tok [0, 3, 6] fun K hK => ?_
   simp only [go_sem, qb, qa, reduceCtorEq, t4]
   apply hK
   refine zI rfl (fun hc15 => ?_) (fun hc15 => ?_)
   · rw [if_pos hc15] at h
     have t16 := eq_true hc15
     refine zf ?_
     exact ⟨_, _, ⟨decide (a0 = 215), rfl, rfl, h⟩, .s⟩
   rw [if_neg hc15] at h
   have t17 := eq_false hc15
   refine rg tok [0, 3, 6] fun K hK => ?_
   simp only [go_sem, qb, qa, reduceCtorEq, t17]
   apply hK
   refine zI rfl (fun hc18 => ?_) (fun hc18 => ?_)
   · rw [if_pos hc18] at h
     have t19 := eq_true hc18
     refine zf ?_
     exact ⟨_, _, ⟨decide (a0 = 247), rfl, rfl, h⟩, .s⟩
   rw [if_neg hc18] at h
   have t20 := eq_false hc18
   refine rgE tok [0, 6] fun K hK => ?_
   simp only [go_sem, qb, qa, reduceCtorEq, t20]
   apply hK
   exact ⟨_, _, ⟨decide (a0 = 930), rfl, rfl, h⟩, .s⟩
 rintro _ _ ⟨x5, rfl, rfl, h⟩
 unfold yY.j6 at h
 refine zt (b := x5) rfl (fun hc7 => ?_) (fun hc7 => ?_)
 · rw [if_pos hc7] at h
   refine rg tok [2] fun K hK => ?_
   simp only [go_sem, qb, qa, reduceCtorEq]
   apply hK
   refine zi ?_
   obtain rfl := h
   exact yy
 rw [xK hc7] at h
 refine zf ?_
 apply hZ1
 refine rc [2] fun K hK => ?_
 obtain ⟨r8, hr8, h⟩ := zW h
 refine za tok 1 ?_
 simp only [go_sem, qb, reduceCtorEq]
 refine zh rfl rfl rfl (wh.ev a0 97 122 r8 hr8 _) ?_
 rintro _ _ ⟨rfl, rfl⟩
 refine za tok 1 ?_
 simp only [go_sem, qb, qa, reduceCtorEq]
 obtain ⟨c9, hc9, h⟩ := zW h
 refine zn 3 (fun L τ => L = [(0, .int .i32 a0), (15, .bool c9)] ∧ τ = ([] : Store)) ?_ ?_
 · refine zQ (b := r8) 12 rfl (fun hg12 => ?_) (fun hg12 => ?_)
   · rw [if_pos hg12] at hc9
     refine za tok 3 ?_
     simp only [go_sem, qb, qa, reduceCtorEq]
     subst hc9
     refine zb ⟨rfl, _, _, ⟨rfl, rfl⟩, .b hg12⟩
   rw [xK hg12] at hc9
   obtain ⟨r10, hr10, hc9⟩ := zW hc9
   refine za tok 1 ?_
   simp only [go_sem, qb, qa, reduceCtorEq]
   refine zh rfl rfl rfl (wh.ev a0 65 90 r10 hr10 _) ?_
   rintro _ _ ⟨rfl, rfl⟩
   refine za tok 1 ?_
   simp only [go_sem, qb, qa, reduceCtorEq]
   subst hc9
   refine zb ⟨rfl, _, _, ⟨rfl, rfl⟩, .b hg12⟩
 rintro _ _ ⟨rfl, rfl⟩
 refine za tok 1 ?_
 simp only [go_sem, qb, reduceCtorEq]
 obtain ⟨c11, hc11, h⟩ := zW h
 refine zn 3 (fun L τ => L = [(0, .int .i32 a0), (19, .bool c11)] ∧ τ = ([] : Store)) ?_ ?_
 · refine zQ (b := c9) 16 rfl (fun hg16 => ?_) (fun hg16 => ?_)
   · rw [if_pos hg16] at hc11
     refine za tok 3 ?_
     simp only [go_sem, qb, qa, reduceCtorEq]
     subst hc11
     refine zb ⟨rfl, _, _, ⟨rfl, rfl⟩, .b hg16⟩
   rw [xK hg16] at hc11
   obtain ⟨r12, hr12, hc11⟩ := zW hc11
   refine za tok 1 ?_
   simp only [go_sem, qb, qa, reduceCtorEq]
   refine zh rfl rfl rfl (wh.ev a0 192 591 r12 hr12 _) ?_
   rintro _ _ ⟨rfl, rfl⟩
   refine za tok 1 ?_
   simp only [go_sem, qb, qa, reduceCtorEq]
   subst hc11
   refine zb ⟨rfl, _, _, ⟨rfl, rfl⟩, .b hg16⟩
 rintro _ _ ⟨rfl, rfl⟩
 refine za tok 1 ?_
 simp only [go_sem, qb, reduceCtorEq]
 obtain ⟨c13, hc13, h⟩ := zW h
 refine zn 3 (fun L τ => L = [(23, .bool c13)] ∧ τ = ([] : Store)) ?_ ?_
 · refine zQ (b := c11) 20 rfl (fun hg20 => ?_) (fun hg20 => ?_)
   · rw [if_pos hg20] at hc13
     refine za tok 3 ?_
     simp only [go_sem, qb, qa, reduceCtorEq]
     subst hc13
     refine zb ⟨rfl, _, _, ⟨rfl, rfl⟩, .b hg20⟩
   rw [xK hg20] at hc13
   obtain ⟨r14, hr14, hc13⟩ := zW hc13
   refine za tok 1 ?_
   simp only [go_sem, qb, qa, reduceCtorEq]
   refine zh rfl rfl rfl (wh.ev a0 913 969 r14 hr14 _) ?_
   rintro _ _ ⟨rfl, rfl⟩
   refine za tok 1 ?_
   simp only [go_sem, qb, qa, reduceCtorEq]
   subst hc13
   refine zb ⟨rfl, _, _, ⟨rfl, rfl⟩, .b hg20⟩
 rintro _ _ ⟨rfl, rfl⟩
 refine za tok 1 ?_
 simp only [go_sem, qb]
 refine zb ?_
 simp only [zd, upd, qa, reduceIte, zk, zo]
 apply hK
 refine zi ?_
 obtain rfl := h
 exact yy
theorem yY.ev (a0 : Int) (r : Bool) (h : yY a0 = r) (σ : Store) : ACalls qh 104 [.int .i32 a0] σ (fun r' σ' => r' = .bool r ∧ σ' = σ) :=
 (yY.ok a0 r h).c σ
def wA (a0 : Int) : Bool :=
 bnd (wh a0 48 57) fun r1 => r1
theorem wA.ok (a0 : Int) (r : Bool) (h : wA a0 = r) : ACalls qh 105 [.int .i32 a0] [] (fun r' _ => r' = .bool r) := by
 refine zm (rs := [.tmp 2]) tok Tryz.func105 rfl Tryz.ntmps105 rfl Tryz.call105 (by simp) ?_
 refine zq [(0, .int .i32 a0)] ⟨rfl, trivial⟩ ?_
 unfold wA at h
 refine rg tok [0] fun K hK => ?_
 simp only [go_sem, qb, reduceCtorEq]
 apply hK
 refine rc [2] fun K hK => ?_
 obtain ⟨r1, hr1, h⟩ := zW h
 refine za tok 1 ?_
 simp only [go_sem, qb]
 refine zh rfl rfl rfl (wh.ev a0 48 57 r1 hr1 _) ?_
 rintro _ _ ⟨rfl, rfl⟩
 refine za tok 1 ?_
 simp only [go_sem, qb, qa, reduceCtorEq]
 refine zb ?_
 simp only [zd, upd, qa, reduceIte, zk, zo]
 apply hK
 refine zi ?_
 obtain rfl := h
 exact yy
theorem wA.ev (a0 : Int) (r : Bool) (h : wA a0 = r) (σ : Store) : ACalls qh 105 [.int .i32 a0] σ (fun r' σ' => r' = .bool r ∧ σ' = σ) :=
 (wA.ok a0 r h).c σ
def yx.l11 (a0 : List UInt8) : Nat → Nat → Option Bool
 | 0, _ => none
 | k11 + 1, p9 => (if p9 < qc a0 then bnd (yY ((Ya a0 p9).1 : Int)) fun r15 => bnd (if (!r15) = true then bnd (if ((p9 : Nat) : Int) = 0 then true else bnd (wA ((Ya a0 p9).1 : Int)) fun r16 => !r16) fun c16 => c16 else false) fun c16 => (if c16 = true then some false else ((yx.l11 a0 k11) (p9 + (Ya a0 p9).2))) else some true)
def yx (a0 : List UInt8) : Option Bool :=
 (yI a0).bind fun r1 => bnd (if ((decide (r1 < 1)) || (decide (20 < r1))) = true then true else bnd (xa a0) fun r5 => r5) fun c5 => (if c5 = true then some false else (yx.l11 a0 rounds 0))
theorem yx.ok (a0 : List UInt8) (r : Bool) (h : yx a0 = some r) : ACalls qh 60 [.str a0] [] (fun r' _ => r' = .bool r) := by
 refine zm (rs := [.tmp 2]) tok Tryz.func60 rfl Tryz.ntmps60 rfl Tryz.call60 (by simp) ?_
 refine zq [(0, .str a0)] ⟨rfl, trivial⟩ ?_
 unfold yx at h
 refine rg tok [0] fun K hK => ?_
 simp only [go_sem, qb, reduceCtorEq]
 apply hK
 refine rc [0, 3] fun K hK => ?_
 obtain ⟨r1, hr1, h⟩ := bind_some h
 refine za tok 1 ?_
 simp only [go_sem, qb]
 refine zh rfl rfl rfl (yI.ev a0 r1 hr1 _) ?_
 rintro _ _ ⟨rfl, rfl⟩
 refine za tok 1 ?_
 simp only [go_sem, qb, qa, reduceCtorEq]
 refine zb ?_
 simp only [zd, upd, qa, reduceIte, zk, zo]
 apply hK
 refine ze fun Z2 hZ2 => ?_
 refine rc [0, 17] fun K hK => ?_
 refine za tok 3 ?_
 simp only [go_sem, qb, qa, reduceCtorEq]
 refine zn 3 (fun L τ => L = [(0, .str a0), (13, .bool ((decide (r1 < 1)) || (decide (20 < r1))))] ∧ τ = ([] : Store)) ?_ ?_
 · refine yH 10 rfl (fun hg10 => ?_) (fun hg10 => ?_)
   · have t3 := eq_true hg10
     refine za tok 3 ?_
     simp only [go_sem, qb, qa, reduceCtorEq]
     refine zb ⟨rfl, _, _, ⟨rfl, rfl⟩, .p t3⟩
   have t4 := eq_false hg10
   refine za tok 3 ?_
   simp only [go_sem, qb, qa, reduceCtorEq]
   refine zb ⟨rfl, _, _, ⟨rfl, rfl⟩, .p t4⟩
 rintro _ _ ⟨rfl, rfl⟩
 refine za tok 1 ?_
 simp only [go_sem, qb, reduceCtorEq]
 obtain ⟨c5, hc5, h⟩ := zW h
 refine zn 3 (fun L τ => L = [(0, .str a0), (17, .bool c5)] ∧ τ = ([] : Store)) ?_ ?_
 · refine zQ (b := ((decide (r1 < 1)) || (decide (20 < r1)))) 14 rfl (fun hg14 => ?_) (fun hg14 => ?_)
   · rw [if_pos hg14] at hc5
     refine za tok 3 ?_
     simp only [go_sem, qb, qa, reduceCtorEq]
     subst hc5
     refine zb ⟨rfl, _, _, ⟨rfl, rfl⟩, .b hg14⟩
   rw [xK hg14] at hc5
   obtain ⟨r6, hr6, hc5⟩ := zW hc5
   refine za tok 1 ?_
   simp only [go_sem, qb, qa, reduceCtorEq]
   refine zh rfl rfl rfl (xa.ev a0 r6 hr6 _) ?_
   rintro _ _ ⟨rfl, rfl⟩
   refine za tok 1 ?_
   simp only [go_sem, qb, qa, reduceCtorEq]
   subst hc5
   refine zb ⟨rfl, _, _, ⟨rfl, rfl⟩, .b hg14⟩
 rintro _ _ ⟨rfl, rfl⟩
 refine zb ?_
 simp only [zd, qa, reduceIte, zk, zo]
 apply hK
 refine zt (b := c5) rfl (fun hc7 => ?_) (fun hc7 => ?_)
 · rw [if_pos hc7] at h
   refine rg tok [2] fun K hK => ?_
   simp only [go_sem, qb, qa, reduceCtorEq]
   apply hK
   refine zi ?_
   obtain rfl := Option.some.inj h
   exact yy
 rw [xK hc7] at h
 refine zf ?_
 apply hZ2
 refine ze fun Z8 hZ8 => ?_
 refine rg tok [19] fun K hK => ?_
 simp only [go_sem, qb, qa, reduceCtorEq]
 apply hK
 refine zj ?_
 refine zB (fun m L τ => ∃ (k11 : Nat) (p9 : Nat), m = 0 + k11 ∧ L = [(19, .it 0)] ∧ τ = ([.iter a0 p9] : Store) ∧ yx.l11 a0 k11 p9 = some r) _ ⟨rounds, 0, rfl, rfl, rfl, h⟩ .s ?_
 rintro m L τ ⟨k11, p9, rfl, rfl, rfl, h⟩
 rcases k11 with _ | k11
 · cases h
 simp only [yx.l11] at h
 by_cases hn12 : p9 < qc a0
 · rw [if_pos hn12] at h
   have t13 := eq_true hn12
   refine rg tok [19, 20, 21] fun K hK => ?_
   simp only [go_sem, qb, qa, qd, XK, if_true, if_false, t13]
   apply hK
   refine ze fun Z14 hZ14 => ?_
   refine zA rfl ?_
   refine zf ?_
   apply hZ14
   refine zj ?_
   refine rg tok [4, 5, 19] fun K hK => ?_
   simp only [go_sem, qb, qa, qd]
   apply hK
   refine rc [19, 35] fun K hK => ?_
   obtain ⟨r15, hr15, h⟩ := zW h
   refine za tok 1 ?_
   simp only [go_sem, qb, qa]
   refine zh rfl rfl rfl (yY.ev ((Ya a0 p9).1 : Int) r15 hr15 _) ?_
   rintro _ _ ⟨rfl, rfl⟩
   refine za tok 2 ?_
   simp only [go_sem, qb, qa]
   obtain ⟨c16, hc16, h⟩ := zW h
   refine zn 8 (fun L τ => L = [(19, .it 0), (35, .bool c16)] ∧ τ = ([.iter a0 (p9 + (Ya a0 p9).2)] : Store)) ?_ ?_
   · refine zQ (b := (!r15)) 27 rfl (fun hg27 => ?_) (fun hg27 => ?_)
     · rw [if_pos hg27] at hc16
       refine za tok 3 ?_
       simp only [go_sem, qb, qa]
       obtain ⟨c17, hc17, hc16⟩ := zW hc16
       refine zn 4 (fun L τ => L = [(19, .it 0), (27, .bool true), (34, .bool c17)] ∧ τ = ([.iter a0 (p9 + (Ya a0 p9).2)] : Store)) ?_ ?_
       · refine yH 30 rfl (fun hg30 => ?_) (fun hg30 => ?_)
         · have t18 := eq_true hg30
           rw [if_pos hg30] at hc17
           refine za tok 4 ?_
           simp only [go_sem, qb, qa]
           subst hc17
           refine zb ⟨rfl, _, _, ⟨rfl, rfl⟩, .p t18⟩
         have t19 := eq_false hg30
         rw [if_neg hg30] at hc17
         obtain ⟨r20, hr20, hc17⟩ := zW hc17
         refine za tok 1 ?_
         simp only [go_sem, qb, qa]
         refine zh rfl rfl rfl (wA.ev ((Ya a0 p9).1 : Int) r20 hr20 _) ?_
         rintro _ _ ⟨rfl, rfl⟩
         refine za tok 2 ?_
         simp only [go_sem, qb, qa]
         subst hc17
         refine zb ⟨rfl, _, _, ⟨rfl, rfl⟩, .p t19⟩
       rintro _ _ ⟨rfl, rfl⟩
       refine za tok 1 ?_
       simp only [go_sem, qb, qa]
       subst hc16
       refine zb ⟨rfl, _, _, ⟨rfl, rfl⟩, .b hg27⟩
     rw [xK hg27] at hc16
     refine za tok 8 ?_
     simp only [go_sem, qb, qa]
     subst hc16
     refine zb ⟨rfl, _, _, ⟨rfl, rfl⟩, .b hg27⟩
   rintro _ _ ⟨rfl, rfl⟩
   refine zb ?_
   simp only [zd, qa, reduceIte, zk, zo]
   apply hK
   refine zt (b := c16) rfl (fun hc21 => ?_) (fun hc21 => ?_)
   · rw [if_pos hc21] at h
     refine rg tok [2] fun K hK => ?_
     simp only [go_sem, qb, qa]
     apply hK
     refine zi ?_
     obtain rfl := Option.some.inj h
     exact yy
   rw [xK hc21] at h
   refine zf ?_
   exact ⟨_, _, _, qw (0 + k11), ⟨k11, p9 + (Ya a0 p9).2, rfl, rfl, rfl, h⟩, .s⟩
 rw [if_neg hn12] at h
 have t22 := eq_false hn12
 refine rg tok [19, 20, 21] fun K hK => ?_
 simp only [go_sem, qb, qa, XK, if_true, if_false, t22]
 apply hK
 refine ze fun Z23 hZ23 => ?_
 refine zx rfl ?_
 refine zJ ?_
 apply hZ8
 refine rg tok [2] fun K hK => ?_
 simp only [go_sem, qb, qa]
 apply hK
 refine zi ?_
 obtain rfl := Option.some.inj h
 exact yy
theorem yx.ev (a0 : List UInt8) (r : Bool) (h : yx a0 = some r) (σ : Store) : ACalls qh 60 [.str a0] σ (fun r' σ' => r' = .bool r ∧ σ' = σ) :=
 (yx.ok a0 r h).c σ
def yd (a0 : List (List UInt8 × Bool)) (a1 : List UInt8) : Option (Bool × List (List UInt8 × Bool)) :=
 (yx a1).bind fun r2 => (if ((!r2) || ((X8 a0 a1).getD false)) = true then some (false, a0) else some (true, vag a0 a1 true))
theorem yd.ok (a0 : List (List UInt8 × Bool)) (a1 : List UInt8) (r : Bool × List (List UInt8 × Bool)) (h : yd a0 a1 = some r) : ACalls qh 63 [.mp 0, .str a1] [.map (wj AV.str AV.bool a0)] (fun r' σ' => r' = .bool r.1 ∧ σ' = [.map (wj AV.str AV.bool r.2)]) := by
 refine Yz [0] (rs := [.tmp 4]) tok Tryz.func63 rfl Tryz.ntmps63 rfl Tryz.call63 (by simp) rfl ?_
 refine zq [(0, .mp 0), (1, .str a1)] ⟨rfl, rfl, trivial⟩ ?_
 unfold yd at h
 refine rg tok [0, 1] fun K hK => ?_
 simp only [go_sem, qb, qa, reduceCtorEq]
 apply hK
 refine ze fun Z1 hZ1 => ?_
 refine rc [0, 1, 12] fun K hK => ?_
 obtain ⟨r2, hr2, h⟩ := bind_some h
 refine za tok 1 ?_
 simp only [go_sem, qb, reduceCtorEq]
 refine zh rfl rfl rfl (yx.ev a1 r2 hr2 _) ?_
 rintro _ _ ⟨rfl, rfl⟩
 refine za tok 2 ?_
 simp only [go_sem, qb, qa, reduceCtorEq]
 refine zn 4 (fun L τ => L = [(0, .mp 0), (1, .str a1), (12, .bool ((!r2) || ((X8 a0 a1).getD false)))] ∧ τ = ([.map (wj AV.str AV.bool a0)] : Store)) ?_ ?_
 · refine zQ (b := (!r2)) 8 rfl (fun hg8 => ?_) (fun hg8 => ?_)
   · refine za tok 4 ?_
     simp only [go_sem, qb, qa, reduceCtorEq, if_false, if_true]
     refine zb ⟨rfl, _, _, ⟨rfl, rfl⟩, .b hg8⟩
   have f3 := fun (x : Store) => vaI (T := tab) (t := 117) (ek := AV.str) (ev := AV.bool) (z := false) (KeyE.str rfl rfl rfl rfl) rfl rfl rfl rfl a0 a1 false (.map (wj AV.str AV.bool a0) :: x) 0 rfl
   refine za tok 4 ?_
   simp only [go_sem, qb, qa, reduceCtorEq, Xl, q1, if_false, if_true, f3]
   refine zb ⟨rfl, _, _, ⟨rfl, rfl⟩, .b hg8⟩
 rintro _ _ ⟨rfl, rfl⟩
 refine zb ?_
 simp only [zd, qa, reduceIte, zk, zo]
 apply hK
 refine zt (b := ((!r2) || ((X8 a0 a1).getD false))) rfl (fun hc4 => ?_) (fun hc4 => ?_)
 · rw [if_pos hc4] at h
   refine rg tok [4] fun K hK => ?_
   simp only [go_sem, qb, qa, reduceCtorEq]
   apply hK
   refine zi ?_
   obtain rfl := Option.some.inj h
   simp only [Zl, yP, y1, xJ, exists_eq_left', go_sem]
   refine ⟨by decide, by simp, ?_, ?_⟩
   · first | rfl | (simp only [go_sem, qb, qe, qa, qd, qs, qF, reduceIte, reduceCtorEq, push_cast, if_true, qz, qn, qD, qv, qE, qJ, qR, qO, qL, qI, qx, zF] <;> rfl)
   first | rfl | (simp only [go_sem, push_cast, qv] <;> rfl)
 rw [xK hc4] at h
 refine zf ?_
 apply hZ1
 have f5 := fun (x : Store) => vaC (T := tab) (t := 117) (ek := AV.str) (ev := AV.bool) (KeyE.str rfl rfl rfl rfl) rfl rfl a0 a1 true (.map (wj AV.str AV.bool a0) :: x) 0 rfl
 refine rg tok [] fun K hK => ?_
 simp only [go_sem, qb, qa, reduceCtorEq, f5]
 apply hK
 refine rg tok [4] fun K hK => ?_
 simp only [go_sem, qb]
 apply hK
 refine zi ?_
 obtain rfl := Option.some.inj h
 simp only [Zl, yP, y1, xJ, exists_eq_left', go_sem]
 refine ⟨by decide, by simp, ?_, ?_⟩
 · first | rfl | (simp only [go_sem, qb, qe, qa, qd, qs, qF, reduceIte, reduceCtorEq, push_cast, if_true, qz, qn, qD, qv, qE, qJ, qR, qO, qL, qI, qx, zF] <;> rfl)
 first | rfl | (simp only [go_sem, push_cast, qv] <;> rfl)
def wH (a0 : Int) : Bool :=
 ((decide (1 ≤ a0)) && (decide (a0 ≤ 500)))
theorem wH.ok (a0 : Int) (r : Bool) (h : wH a0 = r) : ACalls qh 106 [.int .i64 a0] [] (fun r' _ => r' = .bool r) := by
 refine zm (rs := [.tmp 2]) tok Tryz.func106 rfl Tryz.ntmps106 rfl Tryz.call106 (by simp) ?_
 refine zq [(0, .int .i64 a0)] ⟨rfl, trivial⟩ ?_
 unfold wH at h
 refine rg tok [0] fun K hK => ?_
 simp only [go_sem, qb, reduceCtorEq]
 apply hK
 refine rc [2] fun K hK => ?_
 refine za tok 3 ?_
 simp only [go_sem, qb, qa, reduceCtorEq]
 refine zn 3 (fun L τ => L = [(8, .bool ((decide (1 ≤ a0)) && (decide (a0 ≤ 500))))] ∧ τ = ([] : Store)) ?_ ?_
 · refine yH 5 rfl (fun hg5 => ?_) (fun hg5 => ?_)
   · have t1 := eq_true hg5
     refine za tok 3 ?_
     simp only [go_sem, qb, qa, reduceCtorEq]
     refine zb ⟨rfl, _, _, ⟨rfl, rfl⟩, .p t1⟩
   have t2 := eq_false hg5
   refine za tok 3 ?_
   simp only [go_sem, qb, qa, reduceCtorEq]
   refine zb ⟨rfl, _, _, ⟨rfl, rfl⟩, .p t2⟩
 rintro _ _ ⟨rfl, rfl⟩
 refine za tok 1 ?_
 simp only [go_sem, qb]
 refine zb ?_
 simp only [zd, upd, qa, reduceIte, zk, zo]
 apply hK
 refine zi ?_
 obtain rfl := h
 exact yy
theorem wH.ev (a0 : Int) (r : Bool) (h : wH a0 = r) (σ : Store) : ACalls qh 106 [.int .i64 a0] σ (fun r' σ' => r' = .bool r ∧ σ' = σ) :=
 (wH.ok a0 r h).c σ
def xo.l4 (a1 : List UInt8) : List GEnumeration → Int → GEnumeration × Bool
 | [], x2 => ((⟨[], ([] : List GNamed)⟩ : GEnumeration), false)
 | y4 :: q4, x2 => (if y4.fName = a1 then (y4, true) else ((xo.l4 a1 q4) (x2 + 1)))
def xo (a0 : GSchema) (a1 : List UInt8) : GEnumeration × Bool :=
 (xo.l4 a1 a0.fEnums 0)
theorem xo.ok (a0 : GSchema) (a1 : List UInt8) (r : GEnumeration × Bool) (h : xo a0 a1 = r) : ACalls qh 140 [.agg (encGSchema a0), .str a1] [] (fun r' _ => r' = .tup [.agg (encGEnumeration r.1), .bool r.2]) := by
 refine zm (rs := [.cell 4 84, .tmp 5]) tok Tryz.func140 rfl Tryz.ntmps140 rfl Tryz.call140 (by simp) ?_
 refine zq [(0, .agg (encGSchema a0)), (1, .str a1)] ⟨rfl, rfl, trivial⟩ ?_
 unfold xo at h
 refine rg tok [1, 2, 4] fun K hK => ?_
 simp only [go_sem, qb, qa, qd, reduceCtorEq, encGSchema]
 apply hK
 refine ze fun Z1 hZ1 => ?_
 refine rg tok [1, 4, 9, 10, 11] fun K hK => ?_
 simp only [go_sem, qb, qa, qd]
 apply hK
 refine zj ?_
 refine xh 9 fun hb4 => ?_
 replace hb4 : qc a0.fEnums ≤ 9223372036854775807 := hb4.1
 refine zB (fun m L τ => ∃ (p4 q4 : List GEnumeration) (x2 : Int), m = qc q4 ∧ L = [(1, .str a1), (4, .op 0 0 0), (9, .ds true (qf encGEnumeration a0.fEnums) (qc a0.fEnums) false), (10, .int .i64 (qc a0.fEnums : Int)), (11, .int .i64 x2)] ∧ τ = ([.cells 0 [.str [], .ds true [] 0 true]] : Store) ∧ a0.fEnums = p4 ++ q4 ∧ x2 = (qc p4 : Int) ∧ xo.l4 a1 q4 x2 = r) _ ⟨[], a0.fEnums, 0, rfl, rfl, rfl, rfl, rfl, h⟩ (.t [1] false) ?_
 rintro m L τ ⟨p4, q4, x2, rfl, rfl, rfl, hE4, hi4, h⟩
 rcases q4 with _ | ⟨y4, q4⟩
 · have hz4 := yC hE4 hi4
   simp only [xo.l4] at h
   refine rg tok [1, 4, 9, 10, 11, 12] fun K hK => ?_
   simp only [go_sem, qb, qa, hz4]
   apply hK
   refine ze fun Z5 hZ5 => ?_
   refine zx rfl ?_
   refine zJ ?_
   apply hZ1
   refine rg tok [4, 5] fun K hK => ?_
   simp only [go_sem, qb, qe, qa, qd]
   apply hK
   refine zi ?_
   obtain rfl := h
   exact yy
 obtain ⟨hz4, hw4, hx4, hE'4, hi'4⟩ := ye hE4 hi4 hb4
 simp only [xo.l4] at h
 refine rg tok [1, 4, 9, 10, 11, 12] fun K hK => ?_
 simp only [go_sem, qb, qa, hz4]
 apply hK
 refine ze fun Z6 hZ6 => ?_
 refine zA rfl ?_
 refine zf ?_
 apply hZ6
 refine ze fun Z7 hZ7 => ?_
 refine zj ?_
 have f8 := E23.idxS hx4
 have f9 := E23.loadS rfl rfl hx4
 refine rg tok [1, 4, 7, 9, 10, 11] fun K hK => ?_
 simp only [go_sem, qb, qe, qa, qd, encGEnumeration, f8, f9]
 apply hK
 refine rg tok [1, 4, 7, 9, 10, 11, 18] fun K hK => ?_
 simp only [go_sem, qb, qa, qd]
 apply hK
 refine zI rfl (fun hc10 => ?_) (fun hc10 => ?_)
 · rw [if_pos hc10] at h
   have t11 := eq_true hc10
   refine rg tok [4, 5] fun K hK => ?_
   simp only [go_sem, qb, qe, qa, qd, t11]
   apply hK
   refine zi ?_
   obtain rfl := h
   exact yy
 rw [if_neg hc10] at h
 have t12 := eq_false hc10
 refine zf ?_
 apply hZ7
 refine rgE tok [1, 4, 9, 10, 11] fun K hK => ?_
 simp only [go_sem, qb, qa, hw4, t12]
 apply hK
 exact ⟨_, _, _, qw q4.length, ⟨p4 ++ [y4], q4, x2 + 1, rfl, rfl, rfl, hE'4, hi'4, h⟩, (.t [0] false)⟩
theorem xo.ev (a0 : GSchema) (a1 : List UInt8) (r : GEnumeration × Bool) (h : xo a0 a1 = r) (σ : Store) : ACalls qh 140 [.agg (encGSchema a0), .str a1] σ (fun r' σ' => r' = .tup [.agg (encGEnumeration r.1), .bool r.2] ∧ σ' = σ) :=
 (xo.ok a0 a1 r h).c σ
def xI (a0 : GSchema) (a1 : GField) : Bool :=
 (if a1.fType.fKind = 6 then bnd (xo a0 a1.fType.fName) fun r6 => (((decide (1 ≤ a1.fLabel)) && (decide (a1.fLabel ≤ 3))) && r6.2) else (if a1.fType.fKind = 7 then bnd (zD a0 a1.fType.fName) fun r10 => (((decide (1 ≤ a1.fLabel)) && (decide (a1.fLabel ≤ 3))) && r10.2) else (((((decide (1 ≤ a1.fLabel)) && (decide (a1.fLabel ≤ 3))) && (decide (1 ≤ a1.fType.fKind))) && (decide (a1.fType.fName = []))) && (decide (a1.fType.fKind < 6)))))
theorem xI.ok (a0 : GSchema) (a1 : GField) (r : Bool) (h : xI a0 a1 = r) : ACalls qh 107 [.agg (encGSchema a0), .agg (encGField a1)] [] (fun r' _ => r' = .bool r) := by
 refine zm (rs := [.tmp 4]) tok Tryz.func107 rfl Tryz.ntmps107 rfl Tryz.call107 (by simp) ?_
 refine zq [(0, .agg (encGSchema a0)), (1, .agg (encGField a1))] ⟨rfl, rfl, trivial⟩ ?_
 unfold xI at h
 refine rg tok [2, 3] fun K hK => ?_
 simp only [go_sem, qb, qa, qd, reduceCtorEq, encGField, encGSchema]
 apply hK
 refine rc [2, 3, 5] fun K hK => ?_
 refine za tok 4 ?_
 simp only [go_sem, qb, qa, qd]
 refine zn 4 (fun L τ => L = [(2, .op 0 0 0), (3, .op 1 0 0), (17, .bool ((decide (1 ≤ a1.fLabel)) && (decide (a1.fLabel ≤ 3))))] ∧ τ = ([.cells 0 (encGSchema a0), .cells 0 (encGField a1)] : Store)) ?_ ?_
 · refine yH 13 rfl (fun hg13 => ?_) (fun hg13 => ?_)
   · have t1 := eq_true hg13
     refine za tok 4 ?_
     simp only [go_sem, qb, qa, qd]
     refine zb ⟨rfl, _, _, ⟨rfl, rfl⟩, .p t1⟩
   have t2 := eq_false hg13
   refine za tok 4 ?_
   simp only [go_sem, qb, qa]
   refine zb ⟨rfl, _, _, ⟨rfl, rfl⟩, .p t2⟩
 rintro _ _ ⟨rfl, rfl⟩
 refine za tok 1 ?_
 simp only [go_sem, qb, qa]
 refine zb ?_
 simp only [zd, upd, qa, reduceIte, zk, zo]
 apply hK
 refine ze fun Z3 hZ3 => ?_
 refine rg tok [2, 3, 5, 20] fun K hK => ?_
 simp only [go_sem, qb, qa, qd]
 apply hK
 refine zj ?_
 refine rg tok [2, 3, 5, 20, 21] fun K hK => ?_
 simp only [go_sem, qb, qa]
 apply hK
 refine zI rfl (fun hc4 => ?_) (fun hc4 => ?_)
 · rw [if_pos hc4] at h
   have t5 := eq_true hc4
   refine rc [5, 7] fun K hK => ?_
   obtain ⟨r6, hr6, h⟩ := zW h
   refine za tok 4 ?_
   simp only [go_sem, qb, qe, qa, qd, t5]
   refine zh rfl rfl rfl (xo.ev a0 a1.fType.fName r6 hr6 _) ?_
   rintro _ _ ⟨rfl, rfl⟩
   refine za tok 6 ?_
   simp only [go_sem, qb, qe, qa, qd, encGEnumeration]
   refine zb ?_
   simp only [zd, upd, qa, reduceIte, zk, zo]
   apply hK
   refine rc [4] fun K hK => ?_
   refine za tok 2 ?_
   simp only [go_sem, qb, qa]
   refine zn 2 (fun L τ => L = [(34, .bool (((decide (1 ≤ a1.fLabel)) && (decide (a1.fLabel ≤ 3))) && r6.2))] ∧ τ = ([.cells 0 (encGSchema a0), .cells 0 (encGField a1), .cells 0 (encGEnumeration r6.1)] : Store)) ?_ ?_
   · refine zQ (b := ((decide (1 ≤ a1.fLabel)) && (decide (a1.fLabel ≤ 3)))) 32 rfl (fun hg32 => ?_) (fun hg32 => ?_)
     · refine za tok 2 ?_
       simp only [go_sem, qb, qa]
       refine zb ⟨rfl, _, _, ⟨rfl, rfl⟩, .b hg32⟩
     refine za tok 2 ?_
     simp only [go_sem, qb, qa]
     refine zb ⟨rfl, _, _, ⟨rfl, rfl⟩, .b hg32⟩
   rintro _ _ ⟨rfl, rfl⟩
   refine za tok 1 ?_
   simp only [go_sem, qb]
   refine zb ?_
   simp only [zd, upd, qa, reduceIte, zk, zo]
   apply hK
   refine zi ?_
   obtain rfl := h
   exact yy
 rw [if_neg hc4] at h
 have t7 := eq_false hc4
 refine rg tok [2, 3, 5, 35] fun K hK => ?_
 simp only [go_sem, qb, qa, t7]
 apply hK
 refine zI rfl (fun hc8 => ?_) (fun hc8 => ?_)
 · rw [if_pos hc8] at h
   have t9 := eq_true hc8
   refine rc [5, 9] fun K hK => ?_
   obtain ⟨r10, hr10, h⟩ := zW h
   refine za tok 4 ?_
   simp only [go_sem, qb, qe, qa, qd, t9]
   refine zh rfl rfl rfl (zD.ev a0 a1.fType.fName r10 hr10 _) ?_
   rintro _ _ ⟨rfl, rfl⟩
   refine za tok 6 ?_
   simp only [go_sem, qb, qe, qa, qd, encGMessage]
   refine zb ?_
   simp only [zd, upd, qa, reduceIte, zk, zo]
   apply hK
   refine rc [4] fun K hK => ?_
   refine za tok 2 ?_
   simp only [go_sem, qb, qa]
   refine zn 2 (fun L τ => L = [(48, .bool (((decide (1 ≤ a1.fLabel)) && (decide (a1.fLabel ≤ 3))) && r10.2))] ∧ τ = ([.cells 0 (encGSchema a0), .cells 0 (encGField a1), .cells 0 (encGMessage r10.1)] : Store)) ?_ ?_
   · refine zQ (b := ((decide (1 ≤ a1.fLabel)) && (decide (a1.fLabel ≤ 3)))) 46 rfl (fun hg46 => ?_) (fun hg46 => ?_)
     · refine za tok 2 ?_
       simp only [go_sem, qb, qa]
       refine zb ⟨rfl, _, _, ⟨rfl, rfl⟩, .b hg46⟩
     refine za tok 2 ?_
     simp only [go_sem, qb, qa]
     refine zb ⟨rfl, _, _, ⟨rfl, rfl⟩, .b hg46⟩
   rintro _ _ ⟨rfl, rfl⟩
   refine za tok 1 ?_
   simp only [go_sem, qb]
   refine zb ?_
   simp only [zd, upd, qa, reduceIte, zk, zo]
   apply hK
   refine zi ?_
   obtain rfl := h
   exact yy
 rw [if_neg hc8] at h
 have t11 := eq_false hc8
 refine zf ?_
 apply hZ3
 refine rc [4] fun K hK => ?_
 refine za tok 2 ?_
 simp only [go_sem, qb, qa, t11]
 refine zn 5 (fun L τ => L = [(3, .op 1 0 0), (55, .bool (((decide (1 ≤ a1.fLabel)) && (decide (a1.fLabel ≤ 3))) && (decide (1 ≤ a1.fType.fKind))))] ∧ τ = ([.cells 0 (encGSchema a0), .cells 0 (encGField a1)] : Store)) ?_ ?_
 · refine zQ (b := ((decide (1 ≤ a1.fLabel)) && (decide (a1.fLabel ≤ 3)))) 50 rfl (fun hg50 => ?_) (fun hg50 => ?_)
   · refine za tok 5 ?_
     simp only [go_sem, qb, qa, qd]
     refine zb ⟨rfl, _, _, ⟨rfl, rfl⟩, .b hg50⟩
   refine za tok 5 ?_
   simp only [go_sem, qb, qa]
   refine zb ⟨rfl, _, _, ⟨rfl, rfl⟩, .b hg50⟩
 rintro _ _ ⟨rfl, rfl⟩
 refine za tok 1 ?_
 simp only [go_sem, qb, qa]
 refine zn 8 (fun L τ => L = [(3, .op 1 0 0), (64, .bool ((((decide (1 ≤ a1.fLabel)) && (decide (a1.fLabel ≤ 3))) && (decide (1 ≤ a1.fType.fKind))) && (decide (a1.fType.fName = []))))] ∧ τ = ([.cells 0 (encGSchema a0), .cells 0 (encGField a1)] : Store)) ?_ ?_
 · refine zQ (b := (((decide (1 ≤ a1.fLabel)) && (decide (a1.fLabel ≤ 3))) && (decide (1 ≤ a1.fType.fKind)))) 56 rfl (fun hg56 => ?_) (fun hg56 => ?_)
   · refine za tok 8 ?_
     simp only [go_sem, qb, qe, qa, qd, evEqA, ceqL, ceq]
     refine zb ⟨rfl, _, _, ⟨rfl, rfl⟩, .b hg56⟩
   refine za tok 8 ?_
   simp only [go_sem, qb, qa]
   refine zb ⟨rfl, _, _, ⟨rfl, rfl⟩, .b hg56⟩
 rintro _ _ ⟨rfl, rfl⟩
 refine za tok 1 ?_
 simp only [go_sem, qb, qa]
 refine zn 5 (fun L τ => L = [(70, .bool (((((decide (1 ≤ a1.fLabel)) && (decide (a1.fLabel ≤ 3))) && (decide (1 ≤ a1.fType.fKind))) && (decide (a1.fType.fName = []))) && (decide (a1.fType.fKind < 6))))] ∧ τ = ([.cells 0 (encGSchema a0), .cells 0 (encGField a1)] : Store)) ?_ ?_
 · refine zQ (b := ((((decide (1 ≤ a1.fLabel)) && (decide (a1.fLabel ≤ 3))) && (decide (1 ≤ a1.fType.fKind))) && (decide (a1.fType.fName = [])))) 65 rfl (fun hg65 => ?_) (fun hg65 => ?_)
   · refine za tok 5 ?_
     simp only [go_sem, qb, qa, qd]
     refine zb ⟨rfl, _, _, ⟨rfl, rfl⟩, .b hg65⟩
   refine za tok 5 ?_
   simp only [go_sem, qb, qa]
   refine zb ⟨rfl, _, _, ⟨rfl, rfl⟩, .b hg65⟩
 rintro _ _ ⟨rfl, rfl⟩
 refine za tok 1 ?_
 simp only [go_sem, qb]
 refine zb ?_
 simp only [zd, upd, qa, reduceIte, zk, zo]
 apply hK
 refine zi ?_
 obtain rfl := h
 exact yy
theorem xI.ev (a0 : GSchema) (a1 : GField) (r : Bool) (h : xI a0 a1 = r) (σ : Store) : ACalls qh 107 [.agg (encGSchema a0), .agg (encGField a1)] σ (fun r' σ' => r' = .bool r ∧ σ' = σ) :=
 (xI.ok a0 a1 r h).c σ
def zH.l21 (a0 : GSchema) (r2 : Bool × List (List UInt8 × Bool)) : List GField → Int → List (Int × Bool) → List (List UInt8 × Bool) → Option (Int × List (List UInt8 × Bool))
 | [], x17, l15, l16 => some (0, r2.2)
 | y21 :: q21, x17, l15, l16 => (yd l16 y21.fName).bind fun r28 => (if (!r28.1) = true then some (6, r2.2) else bnd (wH y21.fTag) fun r30 => (if ((!r30) || ((X8 l15 y21.fTag).getD false)) = true then some (7, r2.2) else bnd (xI a0 y21) fun r33 => (if (!r33) = true then some (8, r2.2) else ((zH.l21 a0 r2 q21) (x17 + 1) (vag l15 y21.fTag true) r28.2))))
def zH.l12 (a0 : GSchema) (a2 : GMessage) (r2 : Bool × List (List UInt8 × Bool)) : List Int → Int → List (Int × Bool) → Option (Int × List (List UInt8 × Bool))
 | [], x9, l8 => (zH.l21 a0 r2 a2.fFields 0 l8 [])
 | y12 :: q12, x9, l8 => bnd (wH y12) fun r41 => (if ((!r41) || ((X8 l8 y12).getD false)) = true then some (7, r2.2) else ((zH.l12 a0 a2 r2 q12) (x9 + 1) (vag l8 y12 true)))
def zH (a0 : GSchema) (a1 : List (List UInt8 × Bool)) (a2 : GMessage) : Option (Int × List (List UInt8 × Bool)) :=
 (yd a1 a2.fName).bind fun r2 => (if (!r2.1) = true then some (6, r2.2) else (if ((decide (16 < (qc a2.fFields : Int))) || (decide (32 < (qc a2.fReserved : Int)))) = true then some (4, r2.2) else (zH.l12 a0 a2 r2 a2.fReserved 0 [])))
theorem zH.ok (a0 : GSchema) (a1 : List (List UInt8 × Bool)) (a2 : GMessage) (r : Int × List (List UInt8 × Bool)) (h : zH a0 a1 a2 = some r) : ACalls qh 61 [.agg (encGSchema a0), .mp 0, .agg (encGMessage a2)] [.map (wj AV.str AV.bool a1)] (fun r' σ' => r' = .int .i64 r.1 ∧ σ' = [.map (wj AV.str AV.bool r.2)]) := by
 refine Yz [0] (rs := [.tmp 6]) tok Tryz.func61 rfl Tryz.ntmps61 rfl Tryz.call61 (by simp) rfl ?_
 refine zq [(0, .agg (encGSchema a0)), (1, .mp 0), (2, .agg (encGMessage a2))] ⟨rfl, rfl, rfl, trivial⟩ ?_
 unfold zH at h
 refine rg tok [1, 3, 5] fun K hK => ?_
 simp only [go_sem, qb, qa, qd, reduceCtorEq, encGMessage, encGSchema]
 apply hK
 refine ze fun Z1 hZ1 => ?_
 refine zj ?_
 refine rc [3, 5, 13] fun K hK => ?_
 obtain ⟨r2, hr2, h⟩ := bind_some h
 refine za tok 3 ?_
 simp only [go_sem, qb, qa, qd]
 refine zh rfl rfl rfl (@id (ACalls qh 63 [.mp 0, .str a2.fName] [.map (wj AV.str AV.bool a1), .cells 0 (encGSchema a0), .cells 0 (encGMessage a2)] (fun r' σ' => r' = .bool r2.1 ∧ σ' = [.map (wj AV.str AV.bool r2.2), .cells 0 (encGSchema a0), .cells 0 (encGMessage a2)])) ((yd.ok a1 a2.fName r2 hr2).i [0])) ?_
 rintro _ _ ⟨rfl, rfl⟩
 refine za tok 2 ?_
 simp only [go_sem, qb, qa]
 refine zb ?_
 simp only [zd, upd, qa, reduceIte, zk, zo]
 apply hK
 refine zt (b := (!r2.1)) rfl (fun hc3 => ?_) (fun hc3 => ?_)
 · rw [if_pos hc3] at h
   refine rg tok [6] fun K hK => ?_
   simp only [go_sem, qb, qa]
   apply hK
   refine zi ?_
   obtain rfl := Option.some.inj h
   simp only [Zl, yP, y1, xJ, exists_eq_left', go_sem, qd]
   refine ⟨by decide, by simp, ?_, ?_⟩
   · first | rfl | (simp only [go_sem, qb, qe, qa, qd, qs, qF, reduceIte, reduceCtorEq, push_cast, if_true, qz, qn, qD, qv, qE, qJ, qR, qO, qL, qI, qx, zF] <;> rfl)
   first | rfl | (simp only [go_sem, push_cast, qv] <;> rfl)
 rw [xK hc3] at h
 refine rc [3, 5, 19] fun K hK => ?_
 refine za tok 5 ?_
 simp only [go_sem, qb, qa, qd]
 refine zn 5 (fun L τ => L = [(3, .op 1 0 0), (5, .op 2 0 0), (29, .bool ((decide (16 < (qc a2.fFields : Int))) || (decide (32 < (qc a2.fReserved : Int)))))] ∧ τ = ([.map (wj AV.str AV.bool r2.2), .cells 0 (encGSchema a0), .cells 0 (encGMessage a2)] : Store)) ?_ ?_
 · refine yH 24 rfl (fun hg24 => ?_) (fun hg24 => ?_)
   · have t4 := eq_true hg24
     refine za tok 5 ?_
     simp only [go_sem, qb, qa]
     refine zb ⟨rfl, _, _, ⟨rfl, rfl⟩, .p t4⟩
   have t5 := eq_false hg24
   refine za tok 5 ?_
   simp only [go_sem, qb, qa, qd]
   refine zb ⟨rfl, _, _, ⟨rfl, rfl⟩, .p t5⟩
 rintro _ _ ⟨rfl, rfl⟩
 refine za tok 1 ?_
 simp only [go_sem, qb, qa]
 refine zb ?_
 simp only [zd, upd, qa, reduceIte, zk, zo]
 apply hK
 refine zt (b := ((decide (16 < (qc a2.fFields : Int))) || (decide (32 < (qc a2.fReserved : Int))))) rfl (fun hc6 => ?_) (fun hc6 => ?_)
 · rw [if_pos hc6] at h
   refine rg tok [6] fun K hK => ?_
   simp only [go_sem, qb, qa]
   apply hK
   refine zi ?_
   obtain rfl := Option.some.inj h
   simp only [Zl, yP, y1, xJ, exists_eq_left', go_sem, qd]
   refine ⟨by decide, by simp, ?_, ?_⟩
   · first | rfl | (simp only [go_sem, qb, qe, qa, qd, qs, qF, reduceIte, reduceCtorEq, push_cast, if_true, qz, qn, qD, qv, qE, qJ, qR, qO, qL, qI, qx, zF] <;> rfl)
   first | rfl | (simp only [go_sem, push_cast, qv] <;> rfl)
 rw [xK hc6] at h
 refine zf ?_
 apply hZ1
 refine rg tok [3, 5, 7] fun K hK => ?_
 simp only [go_sem, qb, qa, qd]
 apply hK
 refine yg (L := [(3, .op 1 0 0), (5, .op 2 0 0), (7, .mp 3)]) (τ := [.map (wj AV.str AV.bool r2.2), .cells 0 (encGSchema a0), .cells 0 (encGMessage a2), .map (wj (AV.int .i64) AV.bool [])]) .s ?_
 refine ze fun Z7 hZ7 => ?_
 refine rg tok [3, 5, 7, 32, 33, 34] fun K hK => ?_
 simp only [go_sem, qb, qa, qd]
 apply hK
 refine zj ?_
 refine xh 32 fun hb12 => ?_
 replace hb12 : qc a2.fReserved ≤ 9223372036854775807 := hb12.1
 refine zB (fun m L τ => ∃ (p12 q12 : List Int) (x9 : Int) (l8 : List (Int × Bool)), m = qc q12 ∧ L = [(3, .op 1 0 0), (5, .op 2 0 0), (7, .mp 3), (32, .ds true (qf encI a2.fReserved) (qc a2.fReserved) false), (33, .int .i64 (qc a2.fReserved : Int)), (34, .int .i64 x9)] ∧ τ = ([.map (wj AV.str AV.bool r2.2), .cells 0 (encGSchema a0), .cells 0 (encGMessage a2), .map (wj (AV.int .i64) AV.bool l8)] : Store) ∧ a2.fReserved = p12 ++ q12 ∧ x9 = (qc p12 : Int) ∧ zH.l12 a0 a2 r2 q12 x9 l8 = some r) _ ⟨[], a2.fReserved, 0, [], rfl, rfl, rfl, rfl, rfl, h⟩ .s ?_
 rintro m L τ ⟨p12, q12, x9, l8, rfl, rfl, rfl, hE12, hi12, h⟩
 rcases q12 with _ | ⟨y12, q12⟩
 · have hz12 := yC hE12 hi12
   simp only [zH.l12] at h
   refine rg tok [3, 5, 7, 32, 33, 34, 35] fun K hK => ?_
   simp only [go_sem, qb, qa, hz12]
   apply hK
   refine ze fun Z13 hZ13 => ?_
   refine zx rfl ?_
   refine zJ ?_
   apply hZ7
   refine rg tok [3, 5, 7, 10] fun K hK => ?_
   simp only [go_sem, qb, qa, qd]
   apply hK
   refine yg (L := [(3, .op 1 0 0), (5, .op 2 0 0), (7, .mp 3), (10, .mp 4)]) (τ := [.map (wj AV.str AV.bool r2.2), .cells 0 (encGSchema a0), .cells 0 (encGMessage a2), .map (wj (AV.int .i64) AV.bool l8), .map (wj AV.str AV.bool [])]) .s ?_
   refine ze fun Z14 hZ14 => ?_
   refine rg tok [3, 7, 10, 51, 52, 53] fun K hK => ?_
   simp only [go_sem, qb, qa, qd]
   apply hK
   refine zj ?_
   refine xh 51 fun hb21 => ?_
   replace hb21 : qc a2.fFields ≤ 9223372036854775807 := hb21.1
   refine zB (fun m L τ => ∃ (p21 q21 : List GField) (x17 : Int) (l15 : List (Int × Bool)) (l16 : List (List UInt8 × Bool)), m = qc q21 ∧ L = [(3, .op 1 0 0), (7, .mp 2), (10, .mp 3), (51, .ds true (qf encGField a2.fFields) (qc a2.fFields) false), (52, .int .i64 (qc a2.fFields : Int)), (53, .int .i64 x17)] ∧ τ = ([.map (wj AV.str AV.bool r2.2), .cells 0 (encGSchema a0), .map (wj (AV.int .i64) AV.bool l15), .map (wj AV.str AV.bool l16)] : Store) ∧ a2.fFields = p21 ++ q21 ∧ x17 = (qc p21 : Int) ∧ zH.l21 a0 r2 q21 x17 l15 l16 = some r) _ ⟨[], a2.fFields, 0, l8, [], rfl, rfl, rfl, rfl, rfl, h⟩ (.t [0, 1, 3, 4] false) ?_
   rintro m L τ ⟨p21, q21, x17, l15, l16, rfl, rfl, rfl, hE21, hi21, h⟩
   rcases q21 with _ | ⟨y21, q21⟩
   · have hz21 := yC hE21 hi21
     simp only [zH.l21] at h
     refine rg tok [3, 7, 10, 51, 52, 53, 54] fun K hK => ?_
     simp only [go_sem, qb, qa, hz21]
     apply hK
     refine ze fun Z22 hZ22 => ?_
     refine zx rfl ?_
     refine zJ ?_
     apply hZ14
     refine rg tok [6] fun K hK => ?_
     simp only [go_sem, qb, qa]
     apply hK
     refine zi ?_
     obtain rfl := Option.some.inj h
     simp only [Zl, yP, y1, xJ, exists_eq_left', go_sem, qd]
     refine ⟨by decide, by simp, ?_, ?_⟩
     · first | rfl | (simp only [go_sem, qb, qe, qa, qd, qs, qF, reduceIte, reduceCtorEq, push_cast, if_true, qz, qn, qD, qv, qE, qJ, qR, qO, qL, qI, qx, zF] <;> rfl)
     first | rfl | (simp only [go_sem, push_cast, qv] <;> rfl)
   obtain ⟨hz21, hw21, hx21, hE'21, hi'21⟩ := ye hE21 hi21 hb21
   simp only [zH.l21] at h
   refine rg tok [3, 7, 10, 51, 52, 53, 54] fun K hK => ?_
   simp only [go_sem, qb, qa, hz21]
   apply hK
   refine ze fun Z23 hZ23 => ?_
   refine zA rfl ?_
   refine zf ?_
   apply hZ23
   refine ze fun Z24 hZ24 => ?_
   refine zj ?_
   have f25 := E47.idxS hx21
   have f26 := E47.loadS rfl rfl hx21
   refine rg tok [3, 7, 10, 12, 51, 52, 53] fun K hK => ?_
   simp only [go_sem, qb, qe, qa, qd, encGField, f25, f26]
   apply hK
   refine ze fun Z27 hZ27 => ?_
   refine zj ?_
   refine rc [3, 7, 10, 12, 51, 52, 53, 57] fun K hK => ?_
   obtain ⟨r28, hr28, h⟩ := bind_some h
   refine za tok 3 ?_
   simp only [go_sem, qb, qa, qd]
   refine zh rfl rfl rfl (@id (ACalls qh 63 [.mp 3, .str y21.fName] [.map (wj AV.str AV.bool r2.2), .cells 0 (encGSchema a0), .map (wj (AV.int .i64) AV.bool l15), .map (wj AV.str AV.bool l16), .cells 0 (encGField y21)] (fun r' σ' => r' = .bool r28.1 ∧ σ' = [.map (wj AV.str AV.bool r2.2), .cells 0 (encGSchema a0), .map (wj (AV.int .i64) AV.bool l15), .map (wj AV.str AV.bool r28.2), .cells 0 (encGField y21)])) ((yd.ok l16 y21.fName r28 hr28).i [3])) ?_
   rintro _ _ ⟨rfl, rfl⟩
   refine za tok 2 ?_
   simp only [go_sem, qb, qa]
   refine zb ?_
   simp only [zd, upd, qa, reduceIte, zk, zo]
   apply hK
   refine zt (b := (!r28.1)) rfl (fun hc29 => ?_) (fun hc29 => ?_)
   · rw [if_pos hc29] at h
     refine rg tok [6] fun K hK => ?_
     simp only [go_sem, qb, qa]
     apply hK
     refine zi ?_
     obtain rfl := Option.some.inj h
     simp only [Zl, yP, y1, xJ, exists_eq_left', go_sem, qd]
     refine ⟨by decide, by simp, ?_, ?_⟩
     · first | rfl | (simp only [go_sem, qb, qe, qa, qd, qs, qF, reduceIte, reduceCtorEq, push_cast, if_true, qz, qn, qD, qv, qE, qJ, qR, qO, qL, qI, qx, zF] <;> rfl)
     first | rfl | (simp only [go_sem, push_cast, qv] <;> rfl)
   rw [xK hc29] at h
   refine rc [3, 7, 10, 12, 51, 52, 53, 63] fun K hK => ?_
   obtain ⟨r30, hr30, h⟩ := zW h
   refine za tok 2 ?_
   simp only [go_sem, qb, qa, qd]
   refine zh rfl rfl rfl (wH.ev y21.fTag r30 hr30 _) ?_
   rintro _ _ ⟨rfl, rfl⟩
   refine za tok 2 ?_
   simp only [go_sem, qb, qa]
   refine zn 5 (fun L τ => L = [(3, .op 1 0 0), (7, .mp 2), (10, .mp 3), (12, .op 4 0 0), (51, .ds true (qf encGField a2.fFields) (qc a2.fFields) false), (52, .int .i64 (qc a2.fFields : Int)), (53, .int .i64 x17), (73, .bool ((!r30) || ((X8 l15 y21.fTag).getD false)))] ∧ τ = ([.map (wj AV.str AV.bool r2.2), .cells 0 (encGSchema a0), .map (wj (AV.int .i64) AV.bool l15), .map (wj AV.str AV.bool r28.2), .cells 0 (encGField y21)] : Store)) ?_ ?_
   · refine zQ (b := (!r30)) 68 rfl (fun hg68 => ?_) (fun hg68 => ?_)
     · refine za tok 5 ?_
       simp only [go_sem, qb, qa, if_false, if_true]
       refine zb ⟨rfl, _, _, ⟨rfl, rfl⟩, .b hg68⟩
     have f31 := fun (o0 : Zu) (o1 : Zu) (x : Store) => vaI (T := tab) (t := 161) (ek := (AV.int .i64)) (ev := AV.bool) (z := false) (KeyE.int rfl rfl rfl rfl) rfl rfl rfl rfl l15 y21.fTag false (o0 :: o1 :: .map (wj (AV.int .i64) AV.bool l15) :: x) 2 rfl
     refine za tok 5 ?_
     simp only [go_sem, qb, qa, qd, Xl, q1, if_false, if_true, f31]
     refine zb ⟨rfl, _, _, ⟨rfl, rfl⟩, .b hg68⟩
   rintro _ _ ⟨rfl, rfl⟩
   refine za tok 1 ?_
   simp only [go_sem, qb, qa]
   refine zb ?_
   simp only [zd, upd, qa, reduceIte, zk, zo]
   apply hK
   refine zt (b := ((!r30) || ((X8 l15 y21.fTag).getD false))) rfl (fun hc32 => ?_) (fun hc32 => ?_)
   · rw [if_pos hc32] at h
     refine rg tok [6] fun K hK => ?_
     simp only [go_sem, qb, qa]
     apply hK
     refine zi ?_
     obtain rfl := Option.some.inj h
     simp only [Zl, yP, y1, xJ, exists_eq_left', go_sem, qd]
     refine ⟨by decide, by simp, ?_, ?_⟩
     · first | rfl | (simp only [go_sem, qb, qe, qa, qd, qs, qF, reduceIte, reduceCtorEq, push_cast, if_true, qz, qn, qD, qv, qE, qJ, qR, qO, qL, qI, qx, zF] <;> rfl)
     first | rfl | (simp only [go_sem, push_cast, qv] <;> rfl)
   rw [xK hc32] at h
   refine rc [3, 7, 10, 12, 51, 52, 53, 74] fun K hK => ?_
   obtain ⟨r33, hr33, h⟩ := zW h
   refine za tok 2 ?_
   simp only [go_sem, qb, qe, qa, qd]
   refine zh rfl rfl rfl (xI.ev a0 y21 r33 hr33 _) ?_
   rintro _ _ ⟨rfl, rfl⟩
   refine za tok 2 ?_
   simp only [go_sem, qb, qa]
   refine zb ?_
   simp only [zd, upd, qa, reduceIte, zk, zo]
   apply hK
   refine zt (b := (!r33)) rfl (fun hc34 => ?_) (fun hc34 => ?_)
   · rw [if_pos hc34] at h
     refine rg tok [6] fun K hK => ?_
     simp only [go_sem, qb, qa]
     apply hK
     refine zi ?_
     obtain rfl := Option.some.inj h
     simp only [Zl, yP, y1, xJ, exists_eq_left', go_sem, qd]
     refine ⟨by decide, by simp, ?_, ?_⟩
     · first | rfl | (simp only [go_sem, qb, qe, qa, qd, qs, qF, reduceIte, reduceCtorEq, push_cast, if_true, qz, qn, qD, qv, qE, qJ, qR, qO, qL, qI, qx, zF] <;> rfl)
     first | rfl | (simp only [go_sem, push_cast, qv] <;> rfl)
   rw [xK hc34] at h
   refine zf ?_
   apply hZ27
   have f35 := fun (o0 : Zu) (o1 : Zu) (x : Store) => vaC (T := tab) (t := 161) (ek := (AV.int .i64)) (ev := AV.bool) (KeyE.int rfl rfl rfl rfl) rfl rfl l15 y21.fTag true (o0 :: o1 :: .map (wj (AV.int .i64) AV.bool l15) :: x) 2 rfl
   refine rgE tok [3, 7, 10, 51, 52, 53] fun K hK => ?_
   simp only [go_sem, qb, qa, qd, f35]
   apply hK
   apply hZ24
   refine rgE tok [3, 7, 10, 51, 52, 53] fun K hK => ?_
   simp only [go_sem, qb, qa, hw21]
   apply hK
   exact ⟨_, _, _, qw q21.length, ⟨p21 ++ [y21], q21, x17 + 1, vag l15 y21.fTag true, r28.2, rfl, rfl, rfl, hE'21, hi'21, h⟩, (.t [0, 1, 2, 3] false)⟩
 obtain ⟨hz12, hw12, hx12, hE'12, hi'12⟩ := ye hE12 hi12 hb12
 simp only [zH.l12] at h
 refine rg tok [3, 5, 7, 32, 33, 34, 35] fun K hK => ?_
 simp only [go_sem, qb, qa, hz12]
 apply hK
 refine ze fun Z36 hZ36 => ?_
 refine zA rfl ?_
 refine zf ?_
 apply hZ36
 refine ze fun Z37 hZ37 => ?_
 refine zj ?_
 have f38 := E45.idxS hx12
 have f39 := E45.fldS0 (f := 3) rfl rfl hx12
 refine rg tok [3, 5, 7, 9, 32, 33, 34] fun K hK => ?_
 simp only [go_sem, qb, qa, encI, f38, f39]
 apply hK
 refine ze fun Z40 hZ40 => ?_
 refine rc [3, 5, 7, 9, 32, 33, 34, 45] fun K hK => ?_
 obtain ⟨r41, hr41, h⟩ := zW h
 refine za tok 1 ?_
 simp only [go_sem, qb, qa]
 refine zh rfl rfl rfl (wH.ev y12 r41 hr41 _) ?_
 rintro _ _ ⟨rfl, rfl⟩
 refine za tok 2 ?_
 simp only [go_sem, qb, qa]
 refine zn 4 (fun L τ => L = [(3, .op 1 0 0), (5, .op 2 0 0), (7, .mp 3), (9, .int .i64 y12), (32, .ds true (qf encI a2.fReserved) (qc a2.fReserved) false), (33, .int .i64 (qc a2.fReserved : Int)), (34, .int .i64 x9), (45, .bool ((!r41) || ((X8 l8 y12).getD false)))] ∧ τ = ([.map (wj AV.str AV.bool r2.2), .cells 0 (encGSchema a0), .cells 0 (encGMessage a2), .map (wj (AV.int .i64) AV.bool l8)] : Store)) ?_ ?_
 · refine zQ (b := (!r41)) 41 rfl (fun hg41 => ?_) (fun hg41 => ?_)
   · refine za tok 4 ?_
     simp only [go_sem, qb, qa, if_false, if_true]
     refine zb ⟨rfl, _, _, ⟨rfl, rfl⟩, .b hg41⟩
   have f42 := fun (o0 : Zu) (o1 : Zu) (o2 : Zu) (x : Store) => vaI (T := tab) (t := 161) (ek := (AV.int .i64)) (ev := AV.bool) (z := false) (KeyE.int rfl rfl rfl rfl) rfl rfl rfl rfl l8 y12 false (o0 :: o1 :: o2 :: .map (wj (AV.int .i64) AV.bool l8) :: x) 3 rfl
   refine za tok 4 ?_
   simp only [go_sem, qb, qa, Xl, q1, if_false, if_true, f42]
   refine zb ⟨rfl, _, _, ⟨rfl, rfl⟩, .b hg41⟩
 rintro _ _ ⟨rfl, rfl⟩
 refine zb ?_
 simp only [zd, qa, reduceIte, zk, zo]
 apply hK
 refine zt (b := ((!r41) || ((X8 l8 y12).getD false))) rfl (fun hc43 => ?_) (fun hc43 => ?_)
 · rw [if_pos hc43] at h
   refine rg tok [6] fun K hK => ?_
   simp only [go_sem, qb, qa]
   apply hK
   refine zi ?_
   obtain rfl := Option.some.inj h
   simp only [Zl, yP, y1, xJ, exists_eq_left', go_sem, qd]
   refine ⟨by decide, by simp, ?_, ?_⟩
   · first | rfl | (simp only [go_sem, qb, qe, qa, qd, qs, qF, reduceIte, reduceCtorEq, push_cast, if_true, qz, qn, qD, qv, qE, qJ, qR, qO, qL, qI, qx, zF] <;> rfl)
   first | rfl | (simp only [go_sem, push_cast, qv] <;> rfl)
 rw [xK hc43] at h
 refine zf ?_
 apply hZ40
 have f44 := fun (o0 : Zu) (o1 : Zu) (o2 : Zu) (x : Store) => vaC (T := tab) (t := 161) (ek := (AV.int .i64)) (ev := AV.bool) (KeyE.int rfl rfl rfl rfl) rfl rfl l8 y12 true (o0 :: o1 :: o2 :: .map (wj (AV.int .i64) AV.bool l8) :: x) 3 rfl
 refine rgE tok [3, 5, 7, 32, 33, 34] fun K hK => ?_
 simp only [go_sem, qb, qa, f44]
 apply hK
 apply hZ37
 refine rgE tok [3, 5, 7, 32, 33, 34] fun K hK => ?_
 simp only [go_sem, qb, qa, hw12]
 apply hK
 exact ⟨_, _, _, qw q12.length, ⟨p12 ++ [y12], q12, x9 + 1, vag l8 y12 true, rfl, rfl, rfl, hE'12, hi'12, h⟩, .s⟩
def ym.l23 (r2 : Bool × List (List UInt8 × Bool)) : List GNamed → Int → List (List UInt8 × Bool) → List (Int × Bool) → Option (Int × List (List UInt8 × Bool))
 | [], x19, l17, l18 => some (0, r2.2)
 | y23 :: q23, x19, l17, l18 => (yd l17 y23.fName).bind fun r30 => (if (!r30.1) = true then some (6, r2.2) else (if (((decide (y23.fN < 0)) || (decide (2147483647 < y23.fN))) || ((X8 l18 y23.fN).getD false)) = true then some (11, r2.2) else ((ym.l23 r2 q23) (x19 + 1) r30.2 (vag l18 y23.fN true))))
def ym.l12 (a1 : GEnumeration) (r2 : Bool × List (List UInt8 × Bool)) : List GNamed → Int → Bool → Option (Int × List (List UInt8 × Bool))
 | [], x9, x8 => (if (!x8) = true then some (12, r2.2) else (ym.l23 r2 a1.fValues 0 [] []))
 | y12 :: q12, x9, x8 => ((ym.l12 a1 r2 q12) (x9 + 1) (x8 || (decide (y12.fN = 0))))
def ym (a0 : List (List UInt8 × Bool)) (a1 : GEnumeration) : Option (Int × List (List UInt8 × Bool)) :=
 (yd a0 a1.fName).bind fun r2 => (if (!r2.1) = true then some (6, r2.2) else (if 16 < (qc a1.fValues : Int) then some (4, r2.2) else (ym.l12 a1 r2 a1.fValues 0 false)))
theorem ym.ok (a0 : List (List UInt8 × Bool)) (a1 : GEnumeration) (r : Int × List (List UInt8 × Bool)) (h : ym a0 a1 = some r) : ACalls qh 62 [.mp 0, .agg (encGEnumeration a1)] [.map (wj AV.str AV.bool a0)] (fun r' σ' => r' = .int .i64 r.1 ∧ σ' = [.map (wj AV.str AV.bool r.2)]) := by
 refine Yz [0] (rs := [.tmp 4]) tok Tryz.func62 rfl Tryz.ntmps62 rfl Tryz.call62 (by simp) rfl ?_
 refine zq [(0, .mp 0), (1, .agg (encGEnumeration a1))] ⟨rfl, rfl, trivial⟩ ?_
 unfold ym at h
 refine rg tok [0, 3] fun K hK => ?_
 simp only [go_sem, qb, qa, qd, reduceCtorEq, encGEnumeration]
 apply hK
 refine ze fun Z1 hZ1 => ?_
 refine zj ?_
 refine rc [3, 12] fun K hK => ?_
 obtain ⟨r2, hr2, h⟩ := bind_some h
 refine za tok 3 ?_
 simp only [go_sem, qb, qa, qd, reduceCtorEq]
 refine zh rfl rfl rfl (@id (ACalls qh 63 [.mp 0, .str a1.fName] [.map (wj AV.str AV.bool a0), .cells 0 (encGEnumeration a1)] (fun r' σ' => r' = .bool r2.1 ∧ σ' = [.map (wj AV.str AV.bool r2.2), .cells 0 (encGEnumeration a1)])) ((yd.ok a0 a1.fName r2 hr2).i [0])) ?_
 rintro _ _ ⟨rfl, rfl⟩
 refine za tok 2 ?_
 simp only [go_sem, qb, qa, reduceCtorEq]
 refine zb ?_
 simp only [zd, upd, qa, reduceIte, zk, zo]
 apply hK
 refine zt (b := (!r2.1)) rfl (fun hc3 => ?_) (fun hc3 => ?_)
 · rw [if_pos hc3] at h
   refine rg tok [4] fun K hK => ?_
   simp only [go_sem, qb, qa]
   apply hK
   refine zi ?_
   obtain rfl := Option.some.inj h
   simp only [Zl, yP, y1, xJ, exists_eq_left', go_sem, qd]
   refine ⟨by decide, by simp, ?_, ?_⟩
   · first | rfl | (simp only [go_sem, qb, qe, qa, qd, qs, qF, reduceIte, reduceCtorEq, push_cast, if_true, qz, qn, qD, qv, qE, qJ, qR, qO, qL, qI, qx, zF] <;> rfl)
   first | rfl | (simp only [go_sem, push_cast, qv] <;> rfl)
 rw [xK hc3] at h
 refine rg tok [3, 18] fun K hK => ?_
 simp only [go_sem, qb, qa, qd]
 apply hK
 refine zI rfl (fun hc4 => ?_) (fun hc4 => ?_)
 · rw [if_pos hc4] at h
   have t5 := eq_true hc4
   refine rg tok [4] fun K hK => ?_
   simp only [go_sem, qb, qa, t5]
   apply hK
   refine zi ?_
   obtain rfl := Option.some.inj h
   simp only [Zl, yP, y1, xJ, exists_eq_left', go_sem, qd]
   refine ⟨by decide, by simp, ?_, ?_⟩
   · first | rfl | (simp only [go_sem, qb, qe, qa, qd, qs, qF, reduceIte, reduceCtorEq, push_cast, if_true, qz, qn, qD, qv, qE, qJ, qR, qO, qL, qI, qx, zF] <;> rfl)
   first | rfl | (simp only [go_sem, push_cast, qv] <;> rfl)
 rw [if_neg hc4] at h
 have t6 := eq_false hc4
 refine zf ?_
 apply hZ1
 refine rg tok [3, 5] fun K hK => ?_
 simp only [go_sem, qb, qa, t6]
 apply hK
 refine ze fun Z7 hZ7 => ?_
 refine rg tok [3, 5, 24, 25, 26] fun K hK => ?_
 simp only [go_sem, qb, qa, qd]
 apply hK
 refine zj ?_
 refine xh 24 fun hb12 => ?_
 replace hb12 : qc a1.fValues ≤ 9223372036854775807 := hb12.1
 refine zB (fun m L τ => ∃ (p12 q12 : List GNamed) (x9 : Int) (x8 : Bool), m = qc q12 ∧ L = [(3, .op 1 0 0), (5, .bool x8), (24, .ds true (qf encGNamed a1.fValues) (qc a1.fValues) false), (25, .int .i64 (qc a1.fValues : Int)), (26, .int .i64 x9)] ∧ τ = ([.map (wj AV.str AV.bool r2.2), .cells 0 (encGEnumeration a1)] : Store) ∧ a1.fValues = p12 ++ q12 ∧ x9 = (qc p12 : Int) ∧ ym.l12 a1 r2 q12 x9 x8 = some r) _ ⟨[], a1.fValues, 0, false, rfl, rfl, rfl, rfl, rfl, h⟩ .s ?_
 rintro m L τ ⟨p12, q12, x9, x8, rfl, rfl, rfl, hE12, hi12, h⟩
 rcases q12 with _ | ⟨y12, q12⟩
 · have hz12 := yC hE12 hi12
   simp only [ym.l12] at h
   refine rg tok [3, 5, 24, 25, 26, 27] fun K hK => ?_
   simp only [go_sem, qb, qa, hz12]
   apply hK
   refine ze fun Z13 hZ13 => ?_
   refine zx rfl ?_
   refine zJ ?_
   apply hZ7
   refine ze fun Z14 hZ14 => ?_
   refine rg tok [3, 38] fun K hK => ?_
   simp only [go_sem, qb, qa]
   apply hK
   refine zt (b := (!x8)) rfl (fun hc15 => ?_) (fun hc15 => ?_)
   · rw [if_pos hc15] at h
     refine rg tok [4] fun K hK => ?_
     simp only [go_sem, qb, qa]
     apply hK
     refine zi ?_
     obtain rfl := Option.some.inj h
     simp only [Zl, yP, y1, xJ, exists_eq_left', go_sem, qd]
     refine ⟨by decide, by simp, ?_, ?_⟩
     · first | rfl | (simp only [go_sem, qb, qe, qa, qd, qs, qF, reduceIte, reduceCtorEq, push_cast, if_true, qz, qn, qD, qv, qE, qJ, qR, qO, qL, qI, qx, zF] <;> rfl)
     first | rfl | (simp only [go_sem, push_cast, qv] <;> rfl)
   rw [xK hc15] at h
   refine zf ?_
   apply hZ14
   refine rg tok [3, 8, 9] fun K hK => ?_
   simp only [go_sem, qb, qa, qd]
   apply hK
   refine yg (L := [(3, .op 1 0 0), (8, .mp 2), (9, .mp 3)]) (τ := [.map (wj AV.str AV.bool r2.2), .cells 0 (encGEnumeration a1), .map (wj AV.str AV.bool []), .map (wj (AV.int .i64) AV.bool [])]) .s ?_
   refine ze fun Z16 hZ16 => ?_
   refine rg tok [8, 9, 42, 43, 44] fun K hK => ?_
   simp only [go_sem, qb, qa, qd]
   apply hK
   refine zj ?_
   refine xh 42 fun hb23 => ?_
   replace hb23 : qc a1.fValues ≤ 9223372036854775807 := hb23.1
   refine zB (fun m L τ => ∃ (p23 q23 : List GNamed) (x19 : Int) (l17 : List (List UInt8 × Bool)) (l18 : List (Int × Bool)), m = qc q23 ∧ L = [(8, .mp 1), (9, .mp 2), (42, .ds true (qf encGNamed a1.fValues) (qc a1.fValues) false), (43, .int .i64 (qc a1.fValues : Int)), (44, .int .i64 x19)] ∧ τ = ([.map (wj AV.str AV.bool r2.2), .map (wj AV.str AV.bool l17), .map (wj (AV.int .i64) AV.bool l18)] : Store) ∧ a1.fValues = p23 ++ q23 ∧ x19 = (qc p23 : Int) ∧ ym.l23 r2 q23 x19 l17 l18 = some r) _ ⟨[], a1.fValues, 0, [], [], rfl, rfl, rfl, rfl, rfl, h⟩ (.t [0, 2, 3] false) ?_
   rintro m L τ ⟨p23, q23, x19, l17, l18, rfl, rfl, rfl, hE23, hi23, h⟩
   rcases q23 with _ | ⟨y23, q23⟩
   · have hz23 := yC hE23 hi23
     simp only [ym.l23] at h
     refine rg tok [8, 9, 42, 43, 44, 45] fun K hK => ?_
     simp only [go_sem, qb, qa, hz23]
     apply hK
     refine ze fun Z24 hZ24 => ?_
     refine zx rfl ?_
     refine zJ ?_
     apply hZ16
     refine rg tok [4] fun K hK => ?_
     simp only [go_sem, qb, qa]
     apply hK
     refine zi ?_
     obtain rfl := Option.some.inj h
     simp only [Zl, yP, y1, xJ, exists_eq_left', go_sem, qd]
     refine ⟨by decide, by simp, ?_, ?_⟩
     · first | rfl | (simp only [go_sem, qb, qe, qa, qd, qs, qF, reduceIte, reduceCtorEq, push_cast, if_true, qz, qn, qD, qv, qE, qJ, qR, qO, qL, qI, qx, zF] <;> rfl)
     first | rfl | (simp only [go_sem, push_cast, qv] <;> rfl)
   obtain ⟨hz23, hw23, hx23, hE'23, hi'23⟩ := ye hE23 hi23 hb23
   simp only [ym.l23] at h
   refine rg tok [8, 9, 42, 43, 44, 45] fun K hK => ?_
   simp only [go_sem, qb, qa, hz23]
   apply hK
   refine ze fun Z25 hZ25 => ?_
   refine zA rfl ?_
   refine zf ?_
   apply hZ25
   refine ze fun Z26 hZ26 => ?_
   refine zj ?_
   have f27 := E82.idxS hx23
   have f28 := E82.loadS rfl rfl hx23
   refine rg tok [8, 9, 11, 42, 43, 44] fun K hK => ?_
   simp only [go_sem, qb, qe, qa, qd, encGNamed, f27, f28]
   apply hK
   refine ze fun Z29 hZ29 => ?_
   refine zj ?_
   refine rc [8, 9, 11, 42, 43, 44, 48] fun K hK => ?_
   obtain ⟨r30, hr30, h⟩ := bind_some h
   refine za tok 3 ?_
   simp only [go_sem, qb, qa, qd]
   refine zh rfl rfl rfl (@id (ACalls qh 63 [.mp 1, .str y23.fName] [.map (wj AV.str AV.bool r2.2), .map (wj AV.str AV.bool l17), .map (wj (AV.int .i64) AV.bool l18), .cells 0 [.str y23.fName, .int .i64 y23.fN]] (fun r' σ' => r' = .bool r30.1 ∧ σ' = [.map (wj AV.str AV.bool r2.2), .map (wj AV.str AV.bool r30.2), .map (wj (AV.int .i64) AV.bool l18), .cells 0 [.str y23.fName, .int .i64 y23.fN]])) ((yd.ok l17 y23.fName r30 hr30).i [1])) ?_
   rintro _ _ ⟨rfl, rfl⟩
   refine za tok 2 ?_
   simp only [go_sem, qb, qa]
   refine zb ?_
   simp only [zd, upd, qa, reduceIte, zk, zo]
   apply hK
   refine zt (b := (!r30.1)) rfl (fun hc31 => ?_) (fun hc31 => ?_)
   · rw [if_pos hc31] at h
     refine rg tok [4] fun K hK => ?_
     simp only [go_sem, qb, qa]
     apply hK
     refine zi ?_
     obtain rfl := Option.some.inj h
     simp only [Zl, yP, y1, xJ, exists_eq_left', go_sem, qd]
     refine ⟨by decide, by simp, ?_, ?_⟩
     · first | rfl | (simp only [go_sem, qb, qe, qa, qd, qs, qF, reduceIte, reduceCtorEq, push_cast, if_true, qz, qn, qD, qv, qE, qJ, qR, qO, qL, qI, qx, zF] <;> rfl)
     first | rfl | (simp only [go_sem, push_cast, qv] <;> rfl)
   rw [xK hc31] at h
   refine rc [8, 9, 11, 42, 43, 44, 54] fun K hK => ?_
   refine za tok 4 ?_
   simp only [go_sem, qb, qa, qd]
   refine zn 4 (fun L τ => L = [(8, .mp 1), (9, .mp 2), (11, .op 3 0 0), (42, .ds true (qf encGNamed a1.fValues) (qc a1.fValues) false), (43, .int .i64 (qc a1.fValues : Int)), (44, .int .i64 x19), (62, .bool ((decide (y23.fN < 0)) || (decide (2147483647 < y23.fN))))] ∧ τ = ([.map (wj AV.str AV.bool r2.2), .map (wj AV.str AV.bool r30.2), .map (wj (AV.int .i64) AV.bool l18), .cells 0 [.str y23.fName, .int .i64 y23.fN]] : Store)) ?_ ?_
   · refine yH 58 rfl (fun hg58 => ?_) (fun hg58 => ?_)
     · have t32 := eq_true hg58
       refine za tok 4 ?_
       simp only [go_sem, qb, qa]
       refine zb ⟨rfl, _, _, ⟨rfl, rfl⟩, .p t32⟩
     have t33 := eq_false hg58
     refine za tok 4 ?_
     simp only [go_sem, qb, qa, qd]
     refine zb ⟨rfl, _, _, ⟨rfl, rfl⟩, .p t33⟩
   rintro _ _ ⟨rfl, rfl⟩
   refine za tok 1 ?_
   simp only [go_sem, qb, qa]
   refine zn 5 (fun L τ => L = [(8, .mp 1), (9, .mp 2), (11, .op 3 0 0), (42, .ds true (qf encGNamed a1.fValues) (qc a1.fValues) false), (43, .int .i64 (qc a1.fValues : Int)), (44, .int .i64 x19), (68, .bool (((decide (y23.fN < 0)) || (decide (2147483647 < y23.fN))) || ((X8 l18 y23.fN).getD false)))] ∧ τ = ([.map (wj AV.str AV.bool r2.2), .map (wj AV.str AV.bool r30.2), .map (wj (AV.int .i64) AV.bool l18), .cells 0 [.str y23.fName, .int .i64 y23.fN]] : Store)) ?_ ?_
   · refine zQ (b := ((decide (y23.fN < 0)) || (decide (2147483647 < y23.fN)))) 63 rfl (fun hg63 => ?_) (fun hg63 => ?_)
     · refine za tok 5 ?_
       simp only [go_sem, qb, qa, if_false, if_true]
       refine zb ⟨rfl, _, _, ⟨rfl, rfl⟩, .b hg63⟩
     have f34 := fun (o0 : Zu) (o1 : Zu) (x : Store) => vaI (T := tab) (t := 161) (ek := (AV.int .i64)) (ev := AV.bool) (z := false) (KeyE.int rfl rfl rfl rfl) rfl rfl rfl rfl l18 y23.fN false (o0 :: o1 :: .map (wj (AV.int .i64) AV.bool l18) :: x) 2 rfl
     refine za tok 5 ?_
     simp only [go_sem, qb, qa, qd, Xl, q1, if_false, if_true, f34]
     refine zb ⟨rfl, _, _, ⟨rfl, rfl⟩, .b hg63⟩
   rintro _ _ ⟨rfl, rfl⟩
   refine za tok 1 ?_
   simp only [go_sem, qb, qa]
   refine zb ?_
   simp only [zd, upd, qa, reduceIte, zk, zo]
   apply hK
   refine zt (b := (((decide (y23.fN < 0)) || (decide (2147483647 < y23.fN))) || ((X8 l18 y23.fN).getD false))) rfl (fun hc35 => ?_) (fun hc35 => ?_)
   · rw [if_pos hc35] at h
     refine rg tok [4] fun K hK => ?_
     simp only [go_sem, qb, qa]
     apply hK
     refine zi ?_
     obtain rfl := Option.some.inj h
     simp only [Zl, yP, y1, xJ, exists_eq_left', go_sem, qd]
     refine ⟨by decide, by simp, ?_, ?_⟩
     · first | rfl | (simp only [go_sem, qb, qe, qa, qd, qs, qF, reduceIte, reduceCtorEq, push_cast, if_true, qz, qn, qD, qv, qE, qJ, qR, qO, qL, qI, qx, zF] <;> rfl)
     first | rfl | (simp only [go_sem, push_cast, qv] <;> rfl)
   rw [xK hc35] at h
   refine zf ?_
   apply hZ29
   have f36 := fun (o0 : Zu) (o1 : Zu) (x : Store) => vaC (T := tab) (t := 161) (ek := (AV.int .i64)) (ev := AV.bool) (KeyE.int rfl rfl rfl rfl) rfl rfl l18 y23.fN true (o0 :: o1 :: .map (wj (AV.int .i64) AV.bool l18) :: x) 2 rfl
   refine rgE tok [8, 9, 42, 43, 44] fun K hK => ?_
   simp only [go_sem, qb, qa, qd, f36]
   apply hK
   apply hZ26
   refine rgE tok [8, 9, 42, 43, 44] fun K hK => ?_
   simp only [go_sem, qb, qa, hw23]
   apply hK
   exact ⟨_, _, _, qw q23.length, ⟨p23 ++ [y23], q23, x19 + 1, r30.2, vag l18 y23.fN true, rfl, rfl, rfl, hE'23, hi'23, h⟩, (.t [0, 1, 2] false)⟩
 obtain ⟨hz12, hw12, hx12, hE'12, hi'12⟩ := ye hE12 hi12 hb12
 simp only [ym.l12] at h
 refine rg tok [3, 5, 24, 25, 26, 27] fun K hK => ?_
 simp only [go_sem, qb, qa, hz12]
 apply hK
 refine ze fun Z37 hZ37 => ?_
 refine zA rfl ?_
 refine zf ?_
 apply hZ37
 refine ze fun Z38 hZ38 => ?_
 refine zj ?_
 have f39 := E82.idxS hx12
 have f40 := E82.loadS rfl rfl hx12
 refine rg tok [3, 5, 7, 24, 25, 26] fun K hK => ?_
 simp only [go_sem, qb, qe, qa, qd, encGNamed, f39, f40]
 apply hK
 refine rcE [3, 5, 24, 25, 26] fun K hK => ?_
 refine za tok 2 ?_
 simp only [go_sem, qb, qa]
 refine zn 4 (fun L τ => L = [(3, .op 1 0 0), (5, .bool x8), (24, .ds true (qf encGNamed a1.fValues) (qc a1.fValues) false), (25, .int .i64 (qc a1.fValues : Int)), (26, .int .i64 x9), (35, .bool (x8 || (decide (y12.fN = 0))))] ∧ τ = ([.map (wj AV.str AV.bool r2.2), .cells 0 (encGEnumeration a1), .cells 0 [.str y12.fName, .int .i64 y12.fN]] : Store)) ?_ ?_
 · refine zQ (b := x8) 31 rfl (fun hg31 => ?_) (fun hg31 => ?_)
   · refine za tok 4 ?_
     simp only [go_sem, qb, qa]
     refine zb ⟨rfl, _, _, ⟨rfl, rfl⟩, .b hg31⟩
   refine za tok 4 ?_
   simp only [go_sem, qb, qa, qd]
   refine zb ⟨rfl, _, _, ⟨rfl, rfl⟩, .b hg31⟩
 rintro _ _ ⟨rfl, rfl⟩
 refine za tok 1 ?_
 simp only [go_sem, qb, qa]
 refine zb ?_
 simp only [zd, upd, qa, reduceIte, zk, zo]
 apply hK
 apply hZ38
 refine rgE tok [3, 5, 24, 25, 26] fun K hK => ?_
 simp only [go_sem, qb, qa, hw12]
 apply hK
 exact ⟨_, _, _, qw q12.length, ⟨p12 ++ [y12], q12, x9 + 1, (x8 || (decide (y12.fN = 0))), rfl, rfl, rfl, hE'12, hi'12, h⟩, (.t [0, 1] false)⟩
def zw.l29 (a0 : GSchema) : List GMethod → Int → List (List UInt8 × Bool) → Option Int
 | [], x26, l25 => some 0
 | y29 :: q29, x26, l25 => bnd (zD a0 y29.fIn) fun r35 => bnd (zD a0 y29.fOut) fun r36 => (yd l25 y29.fName).bind fun r37 => (if (!r37.1) = true then some 6 else (if ((!r35.2) || (!r36.2)) = true then some 8 else ((zw.l29 a0 q29) (x26 + 1) r37.2)))
def zw.l22 (a0 : GSchema) : List GEnumeration → Int → List (List UInt8 × Bool) → Option Int
 | [], x19, l18 => (zw.l29 a0 a0.fMethods 0 [])
 | y22 :: q22, x19, l18 => (ym l18 y22).bind fun r44 => (if r44.1 = 0 then ((zw.l22 a0 q22) (x19 + 1) r44.2) else some r44.1)
def zw.l15 (a0 : GSchema) : List GMessage → Int → List (List UInt8 × Bool) → Option Int
 | [], x12, l11 => (zw.l22 a0 a0.fEnums 0 l11)
 | y15 :: q15, x12, l11 => (zH a0 l11 y15).bind fun r52 => (if r52.1 = 0 then ((zw.l15 a0 q15) (x12 + 1) r52.2) else some r52.1)
def zw (a0 : GSchema) : Option Int :=
 (yx a0.fName).bind fun r2 => (if (!r2) = true then some 6 else (if (qc a0.fMessages : Int) = 0 then some 12 else (if (((decide (10 < (qc a0.fMessages : Int))) || (decide (6 < (qc a0.fEnums : Int)))) || (decide (6 < (qc a0.fMethods : Int)))) = true then some 4 else (zw.l15 a0 a0.fMessages 0 []))))
theorem zw.ok (a0 : GSchema) (r : Int) (h : zw a0 = some r) : ACalls qh 39 [.agg (encGSchema a0)] [] (fun r' _ => r' = .int .i64 r) := by
 refine zm (rs := [.tmp 2]) tok Tryz.func39 rfl Tryz.ntmps39 rfl Tryz.call39 (by simp) ?_
 refine zq [(0, .agg (encGSchema a0))] ⟨rfl, trivial⟩ ?_
 unfold zw at h
 refine rg tok [1] fun K hK => ?_
 simp only [go_sem, qb, qa, qd, reduceCtorEq, encGSchema]
 apply hK
 refine ze fun Z1 hZ1 => ?_
 refine zj ?_
 refine rc [1, 17] fun K hK => ?_
 obtain ⟨r2, hr2, h⟩ := bind_some h
 refine za tok 2 ?_
 simp only [go_sem, qb, qa, qd]
 refine zh rfl rfl rfl (yx.ev a0.fName r2 hr2 _) ?_
 rintro _ _ ⟨rfl, rfl⟩
 refine za tok 2 ?_
 simp only [go_sem, qb, qa]
 refine zb ?_
 simp only [zd, upd, qa, reduceIte, zk, zo]
 apply hK
 refine zt (b := (!r2)) rfl (fun hc3 => ?_) (fun hc3 => ?_)
 · rw [if_pos hc3] at h
   refine rg tok [2] fun K hK => ?_
   simp only [go_sem, qb, qa]
   apply hK
   refine zi ?_
   obtain rfl := Option.some.inj h
   exact yy
 rw [xK hc3] at h
 refine rg tok [1, 22] fun K hK => ?_
 simp only [go_sem, qb, qa, qd]
 apply hK
 refine zI rfl (fun hc4 => ?_) (fun hc4 => ?_)
 · rw [if_pos hc4] at h
   have t5 := eq_true hc4
   refine rg tok [2] fun K hK => ?_
   simp only [go_sem, qb, qa, t5]
   apply hK
   refine zi ?_
   obtain rfl := Option.some.inj h
   exact yy
 rw [if_neg hc4] at h
 have t6 := eq_false hc4
 refine rc [1, 27] fun K hK => ?_
 refine za tok 5 ?_
 simp only [go_sem, qb, qa, qd, t6]
 refine zn 5 (fun L τ => L = [(1, .op 0 0 0), (37, .bool ((decide (10 < (qc a0.fMessages : Int))) || (decide (6 < (qc a0.fEnums : Int)))))] ∧ τ = ([.cells 0 (encGSchema a0)] : Store)) ?_ ?_
 · refine yH 32 rfl (fun hg32 => ?_) (fun hg32 => ?_)
   · have t7 := eq_true hg32
     refine za tok 5 ?_
     simp only [go_sem, qb, qa]
     refine zb ⟨rfl, _, _, ⟨rfl, rfl⟩, .p t7⟩
   have t8 := eq_false hg32
   refine za tok 5 ?_
   simp only [go_sem, qb, qa, qd]
   refine zb ⟨rfl, _, _, ⟨rfl, rfl⟩, .p t8⟩
 rintro _ _ ⟨rfl, rfl⟩
 refine za tok 1 ?_
 simp only [go_sem, qb, qa]
 refine zn 5 (fun L τ => L = [(1, .op 0 0 0), (43, .bool (((decide (10 < (qc a0.fMessages : Int))) || (decide (6 < (qc a0.fEnums : Int)))) || (decide (6 < (qc a0.fMethods : Int)))))] ∧ τ = ([.cells 0 (encGSchema a0)] : Store)) ?_ ?_
 · refine zQ (b := ((decide (10 < (qc a0.fMessages : Int))) || (decide (6 < (qc a0.fEnums : Int))))) 38 rfl (fun hg38 => ?_) (fun hg38 => ?_)
   · refine za tok 5 ?_
     simp only [go_sem, qb, qa]
     refine zb ⟨rfl, _, _, ⟨rfl, rfl⟩, .b hg38⟩
   refine za tok 5 ?_
   simp only [go_sem, qb, qa, qd]
   refine zb ⟨rfl, _, _, ⟨rfl, rfl⟩, .b hg38⟩
 rintro _ _ ⟨rfl, rfl⟩
 refine za tok 1 ?_
 simp only [go_sem, qb, qa]
 refine zb ?_
 simp only [zd, upd, qa, reduceIte, zk, zo]
 apply hK
 refine zt (b := (((decide (10 < (qc a0.fMessages : Int))) || (decide (6 < (qc a0.fEnums : Int)))) || (decide (6 < (qc a0.fMethods : Int))))) rfl (fun hc9 => ?_) (fun hc9 => ?_)
 · rw [if_pos hc9] at h
   refine rg tok [2] fun K hK => ?_
   simp only [go_sem, qb, qa]
   apply hK
   refine zi ?_
   obtain rfl := Option.some.inj h
   exact yy
 rw [xK hc9] at h
 refine zf ?_
 apply hZ1
 refine rg tok [1, 3] fun K hK => ?_
 simp only [go_sem, qb, qa]
 apply hK
 refine yg (L := [(1, .op 0 0 0), (3, .mp 1)]) (τ := [.cells 0 (encGSchema a0), .map (wj AV.str AV.bool [])]) .s ?_
 refine ze fun Z10 hZ10 => ?_
 refine rg tok [1, 3, 46, 47, 48] fun K hK => ?_
 simp only [go_sem, qb, qa, qd]
 apply hK
 refine zj ?_
 refine xh 46 fun hb15 => ?_
 replace hb15 : qc a0.fMessages ≤ 9223372036854775807 := hb15.1
 refine zB (fun m L τ => ∃ (p15 q15 : List GMessage) (x12 : Int) (l11 : List (List UInt8 × Bool)), m = qc q15 ∧ L = [(1, .op 0 0 0), (3, .mp 1), (46, .ds true (qf encGMessage a0.fMessages) (qc a0.fMessages) false), (47, .int .i64 (qc a0.fMessages : Int)), (48, .int .i64 x12)] ∧ τ = ([.cells 0 (encGSchema a0), .map (wj AV.str AV.bool l11)] : Store) ∧ a0.fMessages = p15 ++ q15 ∧ x12 = (qc p15 : Int) ∧ zw.l15 a0 q15 x12 l11 = some r) _ ⟨[], a0.fMessages, 0, [], rfl, rfl, rfl, rfl, rfl, h⟩ .s ?_
 rintro m L τ ⟨p15, q15, x12, l11, rfl, rfl, rfl, hE15, hi15, h⟩
 rcases q15 with _ | ⟨y15, q15⟩
 · have hz15 := yC hE15 hi15
   simp only [zw.l15] at h
   refine rg tok [1, 3, 46, 47, 48, 49] fun K hK => ?_
   simp only [go_sem, qb, qa, hz15]
   apply hK
   refine ze fun Z16 hZ16 => ?_
   refine zx rfl ?_
   refine zJ ?_
   apply hZ10
   refine ze fun Z17 hZ17 => ?_
   refine rg tok [1, 3, 61, 62, 63] fun K hK => ?_
   simp only [go_sem, qb, qa, qd]
   apply hK
   refine zj ?_
   refine xh 61 fun hb22 => ?_
   replace hb22 : qc a0.fEnums ≤ 9223372036854775807 := hb22.1
   refine zB (fun m L τ => ∃ (p22 q22 : List GEnumeration) (x19 : Int) (l18 : List (List UInt8 × Bool)), m = qc q22 ∧ L = [(1, .op 0 0 0), (3, .mp 1), (61, .ds true (qf encGEnumeration a0.fEnums) (qc a0.fEnums) false), (62, .int .i64 (qc a0.fEnums : Int)), (63, .int .i64 x19)] ∧ τ = ([.cells 0 (encGSchema a0), .map (wj AV.str AV.bool l18)] : Store) ∧ a0.fEnums = p22 ++ q22 ∧ x19 = (qc p22 : Int) ∧ zw.l22 a0 q22 x19 l18 = some r) _ ⟨[], a0.fEnums, 0, l11, rfl, rfl, rfl, rfl, rfl, h⟩ .s ?_
   rintro m L τ ⟨p22, q22, x19, l18, rfl, rfl, rfl, hE22, hi22, h⟩
   rcases q22 with _ | ⟨y22, q22⟩
   · have hz22 := yC hE22 hi22
     simp only [zw.l22] at h
     refine rg tok [1, 3, 61, 62, 63, 64] fun K hK => ?_
     simp only [go_sem, qb, qa, hz22]
     apply hK
     refine ze fun Z23 hZ23 => ?_
     refine zx rfl ?_
     refine zJ ?_
     apply hZ17
     refine rg tok [1, 10] fun K hK => ?_
     simp only [go_sem, qb, qa, qd]
     apply hK
     refine yg (L := [(1, .op 0 0 0), (10, .mp 2)]) (τ := [.cells 0 (encGSchema a0), .map (wj AV.str AV.bool l18), .map (wj AV.str AV.bool [])]) .s ?_
     refine ze fun Z24 hZ24 => ?_
     refine rg tok [1, 10, 76, 77, 78] fun K hK => ?_
     simp only [go_sem, qb, qa, qd]
     apply hK
     refine zj ?_
     refine xh 76 fun hb29 => ?_
     replace hb29 : qc a0.fMethods ≤ 9223372036854775807 := hb29.1
     refine zB (fun m L τ => ∃ (p29 q29 : List GMethod) (x26 : Int) (l25 : List (List UInt8 × Bool)), m = qc q29 ∧ L = [(1, .op 0 0 0), (10, .mp 1), (76, .ds true (qf encGMethod a0.fMethods) (qc a0.fMethods) false), (77, .int .i64 (qc a0.fMethods : Int)), (78, .int .i64 x26)] ∧ τ = ([.cells 0 (encGSchema a0), .map (wj AV.str AV.bool l25)] : Store) ∧ a0.fMethods = p29 ++ q29 ∧ x26 = (qc p29 : Int) ∧ zw.l29 a0 q29 x26 l25 = some r) _ ⟨[], a0.fMethods, 0, [], rfl, rfl, rfl, rfl, rfl, h⟩ (.t [0, 2] false) ?_
     rintro m L τ ⟨p29, q29, x26, l25, rfl, rfl, rfl, hE29, hi29, h⟩
     rcases q29 with _ | ⟨y29, q29⟩
     · have hz29 := yC hE29 hi29
       simp only [zw.l29] at h
       refine rg tok [1, 10, 76, 77, 78, 79] fun K hK => ?_
       simp only [go_sem, qb, qa, hz29]
       apply hK
       refine ze fun Z30 hZ30 => ?_
       refine zx rfl ?_
       refine zJ ?_
       apply hZ24
       refine rg tok [2] fun K hK => ?_
       simp only [go_sem, qb, qa]
       apply hK
       refine zi ?_
       obtain rfl := Option.some.inj h
       exact yy
     obtain ⟨hz29, hw29, hx29, hE'29, hi'29⟩ := ye hE29 hi29 hb29
     simp only [zw.l29] at h
     refine rg tok [1, 10, 76, 77, 78, 79] fun K hK => ?_
     simp only [go_sem, qb, qa, hz29]
     apply hK
     refine ze fun Z31 hZ31 => ?_
     refine zA rfl ?_
     refine zf ?_
     apply hZ31
     refine ze fun Z32 hZ32 => ?_
     refine zj ?_
     have f33 := E24.idxS hx29
     have f34 := E24.loadS rfl rfl hx29
     refine rg tok [1, 10, 12, 76, 77, 78] fun K hK => ?_
     simp only [go_sem, qb, qe, qa, qd, encGMethod, f33, f34]
     apply hK
     refine rc [1, 10, 12, 14, 76, 77, 78] fun K hK => ?_
     obtain ⟨r35, hr35, h⟩ := zW h
     refine za tok 3 ?_
     simp only [go_sem, qb, qe, qa, qd]
     refine zh rfl rfl rfl (zD.ev a0 y29.fIn r35 hr35 _) ?_
     rintro _ _ ⟨rfl, rfl⟩
     refine za tok 6 ?_
     simp only [go_sem, qb, qe, qa, qd, encGMessage]
     refine zb ?_
     simp only [zd, upd, qa, reduceIte, zk, zo]
     apply hK
     refine rc [1, 10, 12, 14, 16, 76, 77, 78] fun K hK => ?_
     obtain ⟨r36, hr36, h⟩ := zW h
     refine za tok 3 ?_
     simp only [go_sem, qb, qe, qa, qd]
     refine zh rfl rfl rfl (zD.ev a0 y29.fOut r36 hr36 _) ?_
     rintro _ _ ⟨rfl, rfl⟩
     refine za tok 6 ?_
     simp only [go_sem, qb, qe, qa, qd, encGMessage]
     refine zb ?_
     simp only [zd, upd, qa, reduceIte, zk, zo]
     apply hK
     refine zj ?_
     refine rc [1, 10, 14, 16, 76, 77, 78, 96] fun K hK => ?_
     obtain ⟨r37, hr37, h⟩ := bind_some h
     refine za tok 3 ?_
     simp only [go_sem, qb, qa, qd]
     refine zh rfl rfl rfl (@id (ACalls qh 63 [.mp 1, .str y29.fName] [.cells 0 (encGSchema a0), .map (wj AV.str AV.bool l25), .cells 0 [.str y29.fName, .str y29.fIn, .str y29.fOut], .cells 0 (encGMessage r35.1), .cells 0 (encGMessage r36.1)] (fun r' σ' => r' = .bool r37.1 ∧ σ' = [.cells 0 (encGSchema a0), .map (wj AV.str AV.bool r37.2), .cells 0 [.str y29.fName, .str y29.fIn, .str y29.fOut], .cells 0 (encGMessage r35.1), .cells 0 (encGMessage r36.1)])) ((yd.ok l25 y29.fName r37 hr37).i [1])) ?_
     rintro _ _ ⟨rfl, rfl⟩
     refine za tok 2 ?_
     simp only [go_sem, qb, qa]
     refine zb ?_
     simp only [zd, upd, qa, reduceIte, zk, zo]
     apply hK
     refine zt (b := (!r37.1)) rfl (fun hc38 => ?_) (fun hc38 => ?_)
     · rw [if_pos hc38] at h
       refine rg tok [2] fun K hK => ?_
       simp only [go_sem, qb, qa]
       apply hK
       refine zi ?_
       obtain rfl := Option.some.inj h
       exact yy
     rw [xK hc38] at h
     refine rc [1, 10, 76, 77, 78, 102] fun K hK => ?_
     refine za tok 3 ?_
     simp only [go_sem, qb, qa]
     refine zn 3 (fun L τ => L = [(1, .op 0 0 0), (10, .mp 1), (76, .ds true (qf encGMethod a0.fMethods) (qc a0.fMethods) false), (77, .int .i64 (qc a0.fMethods : Int)), (78, .int .i64 x26), (108, .bool ((!r35.2) || (!r36.2)))] ∧ τ = ([.cells 0 (encGSchema a0), .map (wj AV.str AV.bool r37.2), .cells 0 [.str y29.fName, .str y29.fIn, .str y29.fOut], .cells 0 (encGMessage r35.1), .cells 0 (encGMessage r36.1)] : Store)) ?_ ?_
     · refine zQ (b := (!r35.2)) 105 rfl (fun hg105 => ?_) (fun hg105 => ?_)
       · refine za tok 3 ?_
         simp only [go_sem, qb, qa]
         refine zb ⟨rfl, _, _, ⟨rfl, rfl⟩, .b hg105⟩
       refine za tok 3 ?_
       simp only [go_sem, qb, qa]
       refine zb ⟨rfl, _, _, ⟨rfl, rfl⟩, .b hg105⟩
     rintro _ _ ⟨rfl, rfl⟩
     refine za tok 1 ?_
     simp only [go_sem, qb, qa]
     refine zb ?_
     simp only [zd, upd, qa, reduceIte, zk, zo]
     apply hK
     refine zt (b := ((!r35.2) || (!r36.2))) rfl (fun hc39 => ?_) (fun hc39 => ?_)
     · rw [if_pos hc39] at h
       refine rg tok [2] fun K hK => ?_
       simp only [go_sem, qb, qa]
       apply hK
       refine zi ?_
       obtain rfl := Option.some.inj h
       exact yy
     rw [xK hc39] at h
     refine zf ?_
     apply hZ32
     refine rgE tok [1, 10, 76, 77, 78] fun K hK => ?_
     simp only [go_sem, qb, qa, hw29]
     apply hK
     exact ⟨_, _, _, qw q29.length, ⟨p29 ++ [y29], q29, x26 + 1, r37.2, rfl, rfl, rfl, hE'29, hi'29, h⟩, (.t [0, 1] false)⟩
   obtain ⟨hz22, hw22, hx22, hE'22, hi'22⟩ := ye hE22 hi22 hb22
   simp only [zw.l22] at h
   refine rg tok [1, 3, 61, 62, 63, 64] fun K hK => ?_
   simp only [go_sem, qb, qa, hz22]
   apply hK
   refine ze fun Z40 hZ40 => ?_
   refine zA rfl ?_
   refine zf ?_
   apply hZ40
   refine ze fun Z41 hZ41 => ?_
   refine zj ?_
   have f42 := E23.idxS hx22
   have f43 := E23.loadS rfl rfl hx22
   refine rg tok [1, 3, 8, 61, 62, 63] fun K hK => ?_
   simp only [go_sem, qb, qe, qa, qd, encGEnumeration, f42, f43]
   apply hK
   refine rc [1, 3, 9, 61, 62, 63] fun K hK => ?_
   obtain ⟨r44, hr44, h⟩ := bind_some h
   refine za tok 2 ?_
   simp only [go_sem, qb, qe, qa, qd]
   refine zh rfl rfl rfl (@id (ACalls qh 62 [.mp 1, .agg (encGEnumeration y22)] [.cells 0 (encGSchema a0), .map (wj AV.str AV.bool l18), .cells 0 (encGEnumeration y22)] (fun r' σ' => r' = .int .i64 r44.1 ∧ σ' = [.cells 0 (encGSchema a0), .map (wj AV.str AV.bool r44.2), .cells 0 (encGEnumeration y22)])) ((ym.ok l18 y22 r44 hr44).i [1])) ?_
   rintro _ _ ⟨rfl, rfl⟩
   refine za tok 1 ?_
   simp only [go_sem, qb, qa]
   refine zb ?_
   simp only [zd, upd, qa, reduceIte, zk, zo]
   apply hK
   refine rg tok [1, 3, 9, 61, 62, 63, 71] fun K hK => ?_
   simp only [go_sem, qb, qa]
   apply hK
   refine zI rfl (fun hc45 => ?_) (fun hc45 => ?_)
   · rw [if_neg hc45] at h
     have t46 := eq_false hc45
     refine rg tok [2] fun K hK => ?_
     simp only [go_sem, qb, qa, t46]
     apply hK
     refine zi ?_
     obtain rfl := Option.some.inj h
     exact yy
   rw [if_pos hc45] at h
   have t47 := eq_true hc45
   refine zf ?_
   apply hZ41
   refine rgE tok [1, 3, 61, 62, 63] fun K hK => ?_
   simp only [go_sem, qb, qa, hw22, t47]
   apply hK
   exact ⟨_, _, _, qw q22.length, ⟨p22 ++ [y22], q22, x19 + 1, r44.2, rfl, rfl, rfl, hE'22, hi'22, h⟩, (.t [0, 1] false)⟩
 obtain ⟨hz15, hw15, hx15, hE'15, hi'15⟩ := ye hE15 hi15 hb15
 simp only [zw.l15] at h
 refine rg tok [1, 3, 46, 47, 48, 49] fun K hK => ?_
 simp only [go_sem, qb, qa, hz15]
 apply hK
 refine ze fun Z48 hZ48 => ?_
 refine zA rfl ?_
 refine zf ?_
 apply hZ48
 refine ze fun Z49 hZ49 => ?_
 refine zj ?_
 have f50 := E22.idxS hx15
 have f51 := E22.loadS rfl rfl hx15
 refine rg tok [1, 3, 5, 46, 47, 48] fun K hK => ?_
 simp only [go_sem, qb, qe, qa, qd, encGMessage, f50, f51]
 apply hK
 refine rc [1, 3, 6, 46, 47, 48] fun K hK => ?_
 obtain ⟨r52, hr52, h⟩ := bind_some h
 refine za tok 3 ?_
 simp only [go_sem, qb, qe, qa, qd]
 refine zh rfl rfl rfl (@id (ACalls qh 61 [.agg (encGSchema a0), .mp 1, .agg (encGMessage y15)] [.cells 0 (encGSchema a0), .map (wj AV.str AV.bool l11), .cells 0 (encGMessage y15)] (fun r' σ' => r' = .int .i64 r52.1 ∧ σ' = [.cells 0 (encGSchema a0), .map (wj AV.str AV.bool r52.2), .cells 0 (encGMessage y15)])) ((zH.ok a0 l11 y15 r52 hr52).i [1])) ?_
 rintro _ _ ⟨rfl, rfl⟩
 refine za tok 1 ?_
 simp only [go_sem, qb, qa]
 refine zb ?_
 simp only [zd, upd, qa, reduceIte, zk, zo]
 apply hK
 refine rg tok [1, 3, 6, 46, 47, 48, 57] fun K hK => ?_
 simp only [go_sem, qb, qa]
 apply hK
 refine zI rfl (fun hc53 => ?_) (fun hc53 => ?_)
 · rw [if_neg hc53] at h
   have t54 := eq_false hc53
   refine rg tok [2] fun K hK => ?_
   simp only [go_sem, qb, qa, t54]
   apply hK
   refine zi ?_
   obtain rfl := Option.some.inj h
   exact yy
 rw [if_pos hc53] at h
 have t55 := eq_true hc53
 refine zf ?_
 apply hZ49
 refine rgE tok [1, 3, 46, 47, 48] fun K hK => ?_
 simp only [go_sem, qb, qa, hw15, t55]
 apply hK
 exact ⟨_, _, _, qw q15.length, ⟨p15 ++ [y15], q15, x12 + 1, r52.2, rfl, rfl, rfl, hE'15, hi'15, h⟩, (.t [0, 1] false)⟩
theorem zw.ev (a0 : GSchema) (r : Int) (h : zw a0 = some r) (σ : Store) : ACalls qh 39 [.agg (encGSchema a0)] σ (fun r' σ' => r' = .int .i64 r ∧ σ' = σ) :=
 (zw.ok a0 r h).c σ
def xg (a0 : GSchema) (a1 : List UInt8) (a2 : List UInt8) : Option (GTree × Int) :=
 (zw a0).bind fun r2 => (if r2 = 0 then bnd (zD a0 a1) fun r6 => (if (!r6.2) = true then some ((⟨0, 0, [], ([] : List GEntry), ([] : List GRaw)⟩ : GTree), 14) else (zy rounds a0 r6.1 a2 1).bind fun r9 => some (r9.1, r9.2)) else some ((⟨0, 0, [], ([] : List GEntry), ([] : List GRaw)⟩ : GTree), 1))
theorem xg.ok (a0 : GSchema) (a1 : List UInt8) (a2 : List UInt8) (r : GTree × Int) (h : xg a0 a1 a2 = some r) : ACalls qh 16 [.agg (encGSchema a0), .str a1, .ds true (qf encB a2) (qc a2) false] [] (fun r' _ => r' = .tup [.agg (cellsGTree r.1), .int .i64 r.2]) := by
 refine zm (rs := [.cell 6 30, .tmp 7]) tok Tryz.func16 rfl Tryz.ntmps16 rfl Tryz.call16 (by simp) ?_
 refine zq [(0, .agg (encGSchema a0)), (1, .str a1), (2, .ds true (qf encB a2) (qc a2) false)] ⟨rfl, rfl, rfl, trivial⟩ ?_
 unfold xg at h
 refine rg tok [1, 2, 3, 6] fun K hK => ?_
 simp only [go_sem, qb, qa, qd, reduceCtorEq, encGSchema]
 apply hK
 refine ze fun Z1 hZ1 => ?_
 refine rc [1, 2, 3, 6, 12] fun K hK => ?_
 obtain ⟨r2, hr2, h⟩ := bind_some h
 refine za tok 1 ?_
 simp only [go_sem, qb, qe, qa, qd]
 refine zh rfl rfl rfl (zw.ev a0 r2 hr2 _) ?_
 rintro _ _ ⟨rfl, rfl⟩
 refine za tok 1 ?_
 simp only [go_sem, qb, qa]
 refine zb ?_
 simp only [zd, upd, qa, reduceIte, zk, zo]
 apply hK
 refine zI rfl (fun hc3 => ?_) (fun hc3 => ?_)
 · rw [if_neg hc3] at h
   have t4 := eq_false hc3
   refine rg tok [6, 7] fun K hK => ?_
   simp only [go_sem, qb, qe, qa, qd, t4]
   apply hK
   refine zi ?_
   obtain rfl := Option.some.inj h
   exact yy
 rw [if_pos hc3] at h
 have t5 := eq_true hc3
 refine zf ?_
 apply hZ1
 refine rc [2, 3, 6, 8, 9] fun K hK => ?_
 obtain ⟨r6, hr6, h⟩ := zW h
 refine za tok 2 ?_
 simp only [go_sem, qb, qe, qa, qd, t5]
 refine zh rfl rfl rfl (zD.ev a0 a1 r6 hr6 _) ?_
 rintro _ _ ⟨rfl, rfl⟩
 refine za tok 6 ?_
 simp only [go_sem, qb, qe, qa, qd, encGMessage]
 refine zb ?_
 simp only [zd, upd, qa, reduceIte, zk, zo]
 apply hK
 refine ze fun Z7 hZ7 => ?_
 refine rg tok [2, 3, 6, 8, 21] fun K hK => ?_
 simp only [go_sem, qb, qa]
 apply hK
 refine zt (b := (!r6.2)) rfl (fun hc8 => ?_) (fun hc8 => ?_)
 · rw [if_pos hc8] at h
   refine rg tok [6, 7] fun K hK => ?_
   simp only [go_sem, qb, qe, qa, qd]
   apply hK
   refine zi ?_
   obtain rfl := Option.some.inj h
   exact yy
 rw [xK hc8] at h
 refine zf ?_
 apply hZ7
 refine rc [6, 7] fun K hK => ?_
 obtain ⟨r9, hr9, h⟩ := bind_some h
 refine za tok 3 ?_
 simp only [go_sem, qb, qe, qa, qd]
 refine zh rfl rfl rfl (zy.ev rounds a0 r6.1 a2 1 r9 hr9 _) ?_
 rintro _ _ ⟨rfl, rfl⟩
 refine za tok 4 ?_
 simp only [go_sem, qb, qe, qa, qd, cellsGTree]
 refine zb ?_
 simp only [zd, upd, qa, reduceIte, zk, zo]
 apply hK
 refine zi ?_
 obtain rfl := Option.some.inj h
 exact yy
theorem xg.ev (a0 : GSchema) (a1 : List UInt8) (a2 : List UInt8) (r : GTree × Int) (h : xg a0 a1 a2 = some r) (σ : Store) : ACalls qh 16 [.agg (encGSchema a0), .str a1, .ds true (qf encB a2) (qc a2) false] σ (fun r' σ' => r' = .tup [.agg (cellsGTree r.1), .int .i64 r.2] ∧ σ' = σ) :=
 (xg.ok a0 a1 a2 r h).c σ
def zX.l20 (yT : GTree → Int → Option Int) (a1 : Int) (x7 : Int) (rec10 : Int → Int → Option Int) : List GTree → Int → Int → Option Int
 | [], x17, x16 => (rec10 (x7 + 1) x16)
 | y20 :: q20, x17, x16 => (yT y20 (IntKind.i64.wrap (a1 - 1))).bind fun r26 => ((zX.l20 yT a1 x7 rec10 q20) (x17 + 1) (if x16 < r26 then r26 else x16))
def zX.l10 (yT : GTree → Int → Option Int) (a1 : Int) : List GEntry → Int → Int → Option Int
 | [], x7, x6 => some (IntKind.i64.wrap (x6 + 1))
 | y10 :: q10, x7, x6 => (zX.l20 yT a1 x7 (zX.l10 yT a1 q10) y10.fTrees 0 x6)
def zX.body (yT : GTree → Int → Option Int) (a0 : GTree) (a1 : Int) : Option Int :=
 (if ((!(decide (a0.fKind = 3))) || (decide (a1 = 0))) = true then some 0 else (zX.l10 yT a1 a0.fEntries 0 0))
theorem zX.step (yT : GTree → Int → Option Int) (ih_value_deep : ∀ (a0 : GTree) (a1 : Int) (r : Int), yT a0 a1 = some r → ACalls qh 152 [.agg (cellsGTree a0), .int .i64 a1] [] (fun r' _ => r' = .int .i64 r)) (a0 : GTree) (a1 : Int) (r : Int) (h : zX.body yT a0 a1 = some r) : ACalls qh 152 [.agg (cellsGTree a0), .int .i64 a1] [] (fun r' _ => r' = .int .i64 r) := by
 have ev_value_deep := fun a0 a1 r h σ => (ih_value_deep a0 a1 r h).c σ
 refine zm (rs := [.tmp 4]) tok Tryz.func152 rfl Tryz.ntmps152 rfl Tryz.call152 (by simp) ?_
 refine zq [(0, .agg (cellsGTree a0)), (1, .int .i64 a1)] ⟨rfl, rfl, trivial⟩ ?_
 unfold zX.body at h
 refine rg tok [1, 2] fun K hK => ?_
 simp only [go_sem, qb, qa, qd, reduceCtorEq, cellsGTree]
 apply hK
 refine ze fun Z1 hZ1 => ?_
 refine rc [1, 2, 16] fun K hK => ?_
 refine za tok 4 ?_
 simp only [go_sem, qb, qa, qd]
 refine zn 3 (fun L τ => L = [(1, .int .i64 a1), (2, .op 0 0 0), (16, .bool ((!(decide (a0.fKind = 3))) || (decide (a1 = 0))))] ∧ τ = ([.cells 0 (cellsGTree a0)] : Store)) ?_ ?_
 · refine yH 13 rfl (fun hg13 => ?_) (fun hg13 => ?_)
   · have t2 := eq_false hg13
     refine za tok 3 ?_
     simp only [go_sem, qb, qa]
     refine zb ⟨rfl, _, _, ⟨rfl, rfl⟩, .p t2⟩
   have t3 := eq_true hg13
   refine za tok 3 ?_
   simp only [go_sem, qb, qa]
   refine zb ⟨rfl, _, _, ⟨rfl, rfl⟩, .p t3⟩
 rintro _ _ ⟨rfl, rfl⟩
 refine zb ?_
 simp only [zd, qa, reduceIte, zk, zo]
 apply hK
 refine zt (b := ((!(decide (a0.fKind = 3))) || (decide (a1 = 0)))) rfl (fun hc4 => ?_) (fun hc4 => ?_)
 · rw [if_pos hc4] at h
   refine rg tok [4] fun K hK => ?_
   simp only [go_sem, qb, qa]
   apply hK
   refine zi ?_
   obtain rfl := Option.some.inj h
   exact yy
 rw [xK hc4] at h
 refine zf ?_
 apply hZ1
 refine rg tok [1, 2, 5] fun K hK => ?_
 simp only [go_sem, qb, qa]
 apply hK
 refine ze fun Z5 hZ5 => ?_
 refine rg tok [1, 5, 18, 19, 20] fun K hK => ?_
 simp only [go_sem, qb, qa, qd]
 apply hK
 refine zj ?_
 refine xh 18 fun hb10 => ?_
 replace hb10 : qc a0.fEntries ≤ 9223372036854775807 := hb10.1
 refine zB (fun m L τ => ∃ (p10 q10 : List GEntry) (x7 : Int) (x6 : Int), m = qc q10 ∧ L = [(1, .int .i64 a1), (5, .int .i64 x6), (18, .ds true (qf encGEntry a0.fEntries) (qc a0.fEntries) false), (19, .int .i64 (qc a0.fEntries : Int)), (20, .int .i64 x7)] ∧ τ = ([] : Store) ∧ a0.fEntries = p10 ++ q10 ∧ x7 = (qc p10 : Int) ∧ zX.l10 yT a1 q10 x7 x6 = some r) _ ⟨[], a0.fEntries, 0, 0, rfl, rfl, rfl, rfl, rfl, h⟩ (.t [] false) ?_
 rintro m L τ ⟨p10, q10, x7, x6, rfl, rfl, rfl, hE10, hi10, h⟩
 rcases q10 with _ | ⟨y10, q10⟩
 · have hz10 := yC hE10 hi10
   simp only [zX.l10] at h
   refine rg tok [1, 5, 18, 19, 20, 21] fun K hK => ?_
   simp only [go_sem, qb, qa, hz10]
   apply hK
   refine ze fun Z11 hZ11 => ?_
   refine zx rfl ?_
   refine zJ ?_
   apply hZ5
   refine rg tok [4] fun K hK => ?_
   simp only [go_sem, qb, qa]
   apply hK
   refine zi ?_
   obtain rfl := Option.some.inj h
   exact yy
 obtain ⟨hz10, hw10, hx10, hE'10, hi'10⟩ := ye hE10 hi10 hb10
 simp only [zX.l10] at h
 refine rg tok [1, 5, 18, 19, 20, 21] fun K hK => ?_
 simp only [go_sem, qb, qa, hz10]
 apply hK
 refine ze fun Z12 hZ12 => ?_
 refine zA rfl ?_
 refine zf ?_
 apply hZ12
 refine ze fun Z13 hZ13 => ?_
 refine zj ?_
 have f14 := E27.idxS hx10
 have f15 := E27.loadS rfl rfl hx10
 refine rg tok [1, 5, 7, 18, 19, 20] fun K hK => ?_
 simp only [go_sem, qb, qe, qa, qd, cellsGEntry, yo, f14, f15]
 apply hK
 refine rg tok [1, 5, 18, 19, 20, 25, 26, 27] fun K hK => ?_
 simp only [go_sem, qb, qa, qd]
 apply hK
 refine zj ?_
 refine xh 25 fun hb20 => ?_
 replace hb20 : qc y10.fTrees ≤ 9223372036854775807 := hb20.1
 refine zB (fun m L τ => ∃ (p20 q20 : List GTree) (x17 : Int) (x16 : Int), m = qc q20 ∧ L = [(1, .int .i64 a1), (5, .int .i64 x16), (18, .ds true (qf encGEntry a0.fEntries) (qc a0.fEntries) false), (19, .int .i64 (qc a0.fEntries : Int)), (20, .int .i64 x7), (25, .ds true (qf encGTree y10.fTrees) (qc y10.fTrees) false), (26, .int .i64 (qc y10.fTrees : Int)), (27, .int .i64 x17)] ∧ τ = ([] : Store) ∧ y10.fTrees = p20 ++ q20 ∧ x17 = (qc p20 : Int) ∧ zX.l20 yT a1 x7 (zX.l10 yT a1 q10) q20 x17 x16 = some r) _ ⟨[], y10.fTrees, 0, x6, rfl, rfl, rfl, rfl, rfl, h⟩ (.t [] false) ?_
 rintro m L τ ⟨p20, q20, x17, x16, rfl, rfl, rfl, hE20, hi20, h⟩
 rcases q20 with _ | ⟨y20, q20⟩
 · have hz20 := yC hE20 hi20
   simp only [zX.l20] at h
   refine rg tok [1, 5, 18, 19, 20, 25, 26, 27, 28] fun K hK => ?_
   simp only [go_sem, qb, qa, hz20]
   apply hK
   refine ze fun Z21 hZ21 => ?_
   refine zx rfl ?_
   refine zJ ?_
   apply hZ13
   refine rgE tok [1, 5, 18, 19, 20] fun K hK => ?_
   simp only [go_sem, qb, qa, hw10]
   apply hK
   exact ⟨_, _, _, qw q10.length, ⟨p10 ++ [y10], q10, x7 + 1, x16, rfl, rfl, rfl, hE'10, hi'10, h⟩, .s⟩
 obtain ⟨hz20, hw20, hx20, hE'20, hi'20⟩ := ye hE20 hi20 hb20
 simp only [zX.l20] at h
 refine rg tok [1, 5, 18, 19, 20, 25, 26, 27, 28] fun K hK => ?_
 simp only [go_sem, qb, qa, hz20]
 apply hK
 refine ze fun Z22 hZ22 => ?_
 refine zA rfl ?_
 refine zf ?_
 apply hZ22
 refine ze fun Z23 hZ23 => ?_
 refine zj ?_
 have f24 := E90.idxS hx20
 have f25 := E90.loadS rfl rfl hx20
 refine rg tok [1, 5, 9, 18, 19, 20, 25, 26, 27] fun K hK => ?_
 simp only [go_sem, qb, qe, qa, qd, cellsGTree, yp, f24, f25]
 apply hK
 refine rcE [1, 5, 18, 19, 20, 25, 26, 27] fun K hK => ?_
 obtain ⟨r26, hr26, h⟩ := bind_some h
 refine za tok 4 ?_
 simp only [go_sem, qb, qe, qa, qd]
 refine zh rfl rfl rfl (ev_value_deep y20 (IntKind.i64.wrap (a1 - 1)) r26 hr26 _) ?_
 rintro _ _ ⟨rfl, rfl⟩
 refine za tok 2 ?_
 simp only [go_sem, qb, qa, vbk, foldO, evMax2]
 refine zb ?_
 simp only [zd, upd, qa, reduceIte, zk, zo]
 apply hK
 apply hZ23
 refine rgE tok [1, 5, 18, 19, 20, 25, 26, 27] fun K hK => ?_
 simp only [go_sem, qb, qa, hw20]
 apply hK
 exact ⟨_, _, _, qw q20.length, ⟨p20 ++ [y20], q20, x17 + 1, (if x16 < r26 then r26 else x16), rfl, rfl, rfl, hE'20, hi'20, h⟩, (.t [] false)⟩
def zX : Nat → GTree → Int → Option Int
 | 0, _, _ => none
 | k + 1, a0, a1 => zX.body (zX k) a0 a1
theorem zX.all (k : Nat) : (∀ (a0 : GTree) (a1 : Int) (r : Int), zX k a0 a1 = some r → ACalls qh 152 [.agg (cellsGTree a0), .int .i64 a1] [] (fun r' _ => r' = .int .i64 r)) := by
 induction k with
 | zero => exact (fun a0 a1 r h => by simp only [zX] at h; cases h)
 | succ k ih => exact (fun a0 a1 r h => zX.step _ ih a0 a1 r (by simpa only [zX] using h))
theorem zX.ev (k : Nat) (a0 : GTree) (a1 : Int) (r : Int) (h : zX k a0 a1 = some r) (σ : Store) : ACalls qh 152 [.agg (cellsGTree a0), .int .i64 a1] σ (fun r' σ' => r' = .int .i64 r ∧ σ' = σ) :=
 ((zX.all k) a0 a1 r h).c σ
def wm (a0 : GTree) : Option Int :=
 (zX rounds a0 101).bind fun r1 => some r1
theorem wm.ok (a0 : GTree) (r : Int) (h : wm a0 = some r) : ACalls qh 131 [.agg (cellsGTree a0)] [] (fun r' _ => r' = .int .i64 r) := by
 refine zm (rs := [.tmp 2]) tok Tryz.func131 rfl Tryz.ntmps131 rfl Tryz.call131 (by simp) ?_
 refine zq [(0, .agg (cellsGTree a0))] ⟨rfl, trivial⟩ ?_
 unfold wm at h
 refine rg tok [1] fun K hK => ?_
 simp only [go_sem, qb, qa, qd, reduceCtorEq, cellsGTree]
 apply hK
 refine rc [2] fun K hK => ?_
 obtain ⟨r1, hr1, h⟩ := bind_some h
 refine za tok 1 ?_
 simp only [go_sem, qb, qe, qd]
 refine zh rfl rfl rfl (zX.ev rounds a0 101 r1 hr1 _) ?_
 rintro _ _ ⟨rfl, rfl⟩
 refine za tok 1 ?_
 simp only [go_sem, qb, qa]
 refine zb ?_
 simp only [zd, upd, qa, reduceIte, zk, zo]
 apply hK
 refine zi ?_
 obtain rfl := Option.some.inj h
 exact yy
theorem wm.ev (a0 : GTree) (r : Int) (h : wm a0 = some r) (σ : Store) : ACalls qh 131 [.agg (cellsGTree a0)] σ (fun r' σ' => r' = .int .i64 r ∧ σ' = σ) :=
 (wm.ok a0 r h).c σ
def yD (a0 : GRaw) : Bool :=
 (if ((decide (a0.fTag < 1)) || (decide (500 < a0.fTag))) = true then false else (if a0.fWire = 0 then decide (a0.fB = []) else (if a0.fWire = 1 then ((decide (a0.fN = 0)) && (decide ((qc a0.fB : Int) ≤ 4096))) else false)))
theorem yD.ok (a0 : GRaw) (r : Bool) (h : yD a0 = r) : ACalls qh 51 [.agg (encGRaw a0)] [] (fun r' _ => r' = .bool r) := by
 refine zm (rs := [.tmp 2]) tok Tryz.func51 rfl Tryz.ntmps51 rfl Tryz.call51 (by simp) ?_
 refine zq [(0, .agg (encGRaw a0))] ⟨rfl, trivial⟩ ?_
 unfold yD at h
 refine rg tok [1] fun K hK => ?_
 simp only [go_sem, qb, qa, qd, reduceCtorEq, encGRaw]
 apply hK
 refine ze fun Z1 hZ1 => ?_
 refine rc [1, 10] fun K hK => ?_
 refine za tok 4 ?_
 simp only [go_sem, qb, qa, qd]
 refine zn 4 (fun L τ => L = [(1, .op 0 0 0), (10, .bool ((decide (a0.fTag < 1)) || (decide (500 < a0.fTag))))] ∧ τ = ([.cells 0 [.int .i64 a0.fTag, .int .i64 a0.fWire, .int .i64 a0.fN, .str a0.fB]] : Store)) ?_ ?_
 · refine yH 6 rfl (fun hg6 => ?_) (fun hg6 => ?_)
   · have t2 := eq_true hg6
     refine za tok 4 ?_
     simp only [go_sem, qb, qa]
     refine zb ⟨rfl, _, _, ⟨rfl, rfl⟩, .p t2⟩
   have t3 := eq_false hg6
   refine za tok 4 ?_
   simp only [go_sem, qb, qa, qd]
   refine zb ⟨rfl, _, _, ⟨rfl, rfl⟩, .p t3⟩
 rintro _ _ ⟨rfl, rfl⟩
 refine zb ?_
 simp only [zd, qa, reduceIte, zk, zo]
 apply hK
 refine zt (b := ((decide (a0.fTag < 1)) || (decide (500 < a0.fTag)))) rfl (fun hc4 => ?_) (fun hc4 => ?_)
 · rw [if_pos hc4] at h
   refine rg tok [2] fun K hK => ?_
   simp only [go_sem, qb, qa]
   apply hK
   refine zi ?_
   obtain rfl := h
   exact yy
 rw [xK hc4] at h
 refine zf ?_
 apply hZ1
 refine ze fun Z5 hZ5 => ?_
 refine rg tok [1, 12] fun K hK => ?_
 simp only [go_sem, qb, qa, qd]
 apply hK
 refine zj ?_
 refine rg tok [1, 12, 13] fun K hK => ?_
 simp only [go_sem, qb, qa]
 apply hK
 refine zI rfl (fun hc6 => ?_) (fun hc6 => ?_)
 · rw [if_pos hc6] at h
   have t7 := eq_true hc6
   refine rg tok [2] fun K hK => ?_
   simp only [go_sem, qb, qa, qd, t7]
   apply hK
   refine zi ?_
   obtain rfl := h
   exact yy
 rw [if_neg hc6] at h
 have t8 := eq_false hc6
 refine rg tok [1, 18] fun K hK => ?_
 simp only [go_sem, qb, qa, t8]
 apply hK
 refine zI rfl (fun hc9 => ?_) (fun hc9 => ?_)
 · rw [if_pos hc9] at h
   have t10 := eq_true hc9
   refine rc [2] fun K hK => ?_
   refine za tok 4 ?_
   simp only [go_sem, qb, qa, qd, t10]
   refine zn 5 (fun L τ => L = [(28, .bool ((decide (a0.fN = 0)) && (decide ((qc a0.fB : Int) ≤ 4096))))] ∧ τ = ([.cells 0 [.int .i64 a0.fTag, .int .i64 a0.fWire, .int .i64 a0.fN, .str a0.fB]] : Store)) ?_ ?_
   · refine yH 23 rfl (fun hg23 => ?_) (fun hg23 => ?_)
     · have t11 := eq_true hg23
       refine za tok 5 ?_
       simp only [go_sem, qb, qa, qd]
       refine zb ⟨rfl, _, _, ⟨rfl, rfl⟩, .p t11⟩
     have t12 := eq_false hg23
     refine za tok 5 ?_
     simp only [go_sem, qb, qa]
     refine zb ⟨rfl, _, _, ⟨rfl, rfl⟩, .p t12⟩
   rintro _ _ ⟨rfl, rfl⟩
   refine za tok 1 ?_
   simp only [go_sem, qb]
   refine zb ?_
   simp only [zd, upd, qa, reduceIte, zk, zo]
   apply hK
   refine zi ?_
   obtain rfl := h
   exact yy
 rw [if_neg hc9] at h
 have t13 := eq_false hc9
 refine zf ?_
 apply hZ5
 refine rg tok [2] fun K hK => ?_
 simp only [go_sem, qb, qa, t13]
 apply hK
 refine zi ?_
 obtain rfl := h
 exact yy
theorem yD.ev (a0 : GRaw) (r : Bool) (h : yD a0 = r) (σ : Store) : ACalls qh 51 [.agg (encGRaw a0)] σ (fun r' σ' => r' = .bool r ∧ σ' = σ) :=
 (yD.ok a0 r h).c σ
def xj.l4 (a0 : List GRaw) : Nat → Int → Option Bool
 | 0, _ => none
 | k4 + 1, x2 => (if x2 < (qc a0 : Int) then (wW a0 x2).bind fun y9 => (wW a0 (IntKind.i64.wrap (x2 - 1))).bind fun y12 => (if y9.fTag < y12.fTag then some false else ((xj.l4 a0 k4) (IntKind.i64.wrap (x2 + 1)))) else some true)
def xj (a0 : List GRaw) : Option Bool :=
 (xj.l4 a0 rounds 1)
theorem xj.ok (a0 : List GRaw) (r : Bool) (h : xj a0 = some r) : ACalls qh 159 [.ds true (qf encGRaw a0) (qc a0) false] [] (fun r' _ => r' = .bool r) := by
 refine zm (rs := [.tmp 2]) tok Tryz.func159 rfl Tryz.ntmps159 rfl Tryz.call159 (by simp) ?_
 refine zq [(0, .ds true (qf encGRaw a0) (qc a0) false)] ⟨rfl, trivial⟩ ?_
 unfold xj at h
 refine rg tok [0] fun K hK => ?_
 simp only [go_sem, qb, reduceCtorEq]
 apply hK
 refine ze fun Z1 hZ1 => ?_
 refine rg tok [0, 3] fun K hK => ?_
 simp only [go_sem, qb, reduceCtorEq]
 apply hK
 refine zj ?_
 refine zB (fun m L τ => ∃ (k4 : Nat) (x2 : Int), m = 0 + k4 ∧ L = [(0, .ds true (qf encGRaw a0) (qc a0) false), (3, .int .i64 x2)] ∧ τ = ([] : Store) ∧ xj.l4 a0 k4 x2 = some r) _ ⟨rounds, 1, rfl, rfl, rfl, h⟩ .s ?_
 rintro m L τ ⟨k4, x2, rfl, rfl, rfl, h⟩
 rcases k4 with _ | k4
 · cases h
 simp only [xj.l4] at h
 refine ze fun Z5 hZ5 => ?_
 refine rg tok [0, 3, 7] fun K hK => ?_
 simp only [go_sem, qb, qa, reduceCtorEq]
 apply hK
 refine zI rfl (fun hc6 => ?_) (fun hc6 => ?_)
 · rw [if_pos hc6] at h
   have t7 := eq_true hc6
   refine zf ?_
   apply hZ5
   refine ze fun Z8 hZ8 => ?_
   refine zj ?_
   obtain ⟨y9, hy9, h⟩ := bind_some h
   have f10 := E28.idxS hy9
   have f11 := E28.fldS0 (f := 3) rfl rfl hy9
   obtain ⟨y12, hy12, h⟩ := bind_some h
   have f13 := E28.idxS hy12
   have f14 := E28.fldS0 (f := 3) rfl rfl hy12
   refine rd [0, 3, 21] fun K hK => ?_
   refine DW.start (T := tab) [.any, .any, .any, .any, .at [], .any, .any, .any, .any, .any, .at [], .any] [] ?_
   refine DW.runN tok 8 ?_
   simp only [go_sem, qb, qa, reduceCtorEq, encGRaw, t7, f10, f11]
   refine DW.runN tok 4 ?_
   simp only [go_sem, qb, qa, reduceCtorEq, encGRaw, f13, f14]
   refine DW.fin tok (by decide +kernel) rfl ?_
   simp only [zd, upd, qa, reduceIte, zk, zo]
   apply hK
   refine zI rfl (fun hc15 => ?_) (fun hc15 => ?_)
   · rw [if_pos hc15] at h
     have t16 := eq_true hc15
     refine rg tok [2] fun K hK => ?_
     simp only [go_sem, qb, qa, reduceCtorEq, t16]
     apply hK
     refine zi ?_
     obtain rfl := Option.some.inj h
     exact yy
   rw [if_neg hc15] at h
   have t17 := eq_false hc15
   refine zf ?_
   apply hZ8
   refine rgE tok [0, 3] fun K hK => ?_
   simp only [go_sem, qb, qa, reduceCtorEq, t17]
   apply hK
   exact ⟨_, _, _, qw (0 + k4), ⟨k4, IntKind.i64.wrap (x2 + 1), rfl, rfl, rfl, h⟩, .s⟩
 rw [if_neg hc6] at h
 have t18 := eq_false hc6
 refine zJ ?_
 apply hZ1
 refine rg tok [2] fun K hK => ?_
 simp only [go_sem, qb, qa, reduceCtorEq, t18]
 apply hK
 refine zi ?_
 obtain rfl := Option.some.inj h
 exact yy
theorem xj.ev (a0 : List GRaw) (r : Bool) (h : xj a0 = some r) (σ : Store) : ACalls qh 159 [.ds true (qf encGRaw a0) (qc a0) false] σ (fun r' σ' => r' = .bool r ∧ σ' = σ) :=
 (xj.ok a0 r h).c σ
def yB.l16 (x2 : Int) (rec4 : Int → Option Bool) (y4 : GRaw) : List GEntry → Int → Option Bool
 | [], x14 => (rec4 (x2 + 1))
 | y16 :: q16, x14 => (if y16.fTag = y4.fTag then some false else ((yB.l16 x2 rec4 y4 q16) (x14 + 1)))
def yB.l4 (a0 : GTree) : List GRaw → Int → Option Bool
 | [], x2 => (xj a0.fRest).bind fun r6 => some r6
 | y4 :: q4, x2 => bnd (yD y4) fun r12 => (if (!r12) = true then some false else (yB.l16 x2 (yB.l4 a0 q4) y4 a0.fEntries 0))
def yB (a0 : GTree) : Option Bool :=
 (yB.l4 a0 a0.fRest 0)
theorem yB.ok (a0 : GTree) (r : Bool) (h : yB a0 = some r) : ACalls qh 154 [.agg (cellsGTree a0)] [] (fun r' _ => r' = .bool r) := by
 refine zm (rs := [.tmp 2]) tok Tryz.func154 rfl Tryz.ntmps154 rfl Tryz.call154 (by simp) ?_
 refine zq [(0, .agg (cellsGTree a0))] ⟨rfl, trivial⟩ ?_
 unfold yB at h
 refine rg tok [1] fun K hK => ?_
 simp only [go_sem, qb, qa, qd, reduceCtorEq, cellsGTree]
 apply hK
 refine ze fun Z1 hZ1 => ?_
 refine rg tok [1, 8, 9, 10] fun K hK => ?_
 simp only [go_sem, qb, qa, qd]
 apply hK
 refine zj ?_
 refine xh 8 fun hb4 => ?_
 replace hb4 : qc a0.fRest ≤ 9223372036854775807 := hb4.1
 refine zB (fun m L τ => ∃ (p4 q4 : List GRaw) (x2 : Int), m = qc q4 ∧ L = [(1, .op 0 0 0), (8, .ds true (qf encGRaw a0.fRest) (qc a0.fRest) false), (9, .int .i64 (qc a0.fRest : Int)), (10, .int .i64 x2)] ∧ τ = ([.cells 0 (cellsGTree a0)] : Store) ∧ a0.fRest = p4 ++ q4 ∧ x2 = (qc p4 : Int) ∧ yB.l4 a0 q4 x2 = some r) _ ⟨[], a0.fRest, 0, rfl, rfl, rfl, rfl, rfl, h⟩ .s ?_
 rintro m L τ ⟨p4, q4, x2, rfl, rfl, rfl, hE4, hi4, h⟩
 rcases q4 with _ | ⟨y4, q4⟩
 · have hz4 := yC hE4 hi4
   simp only [yB.l4] at h
   refine rg tok [1, 8, 9, 10, 11] fun K hK => ?_
   simp only [go_sem, qb, qa, hz4]
   apply hK
   refine ze fun Z5 hZ5 => ?_
   refine zx rfl ?_
   refine zJ ?_
   apply hZ1
   refine rc [2] fun K hK => ?_
   obtain ⟨r6, hr6, h⟩ := bind_some h
   refine za tok 2 ?_
   simp only [go_sem, qb, qa, qd]
   refine zh rfl rfl rfl (xj.ev a0.fRest r6 hr6 _) ?_
   rintro _ _ ⟨rfl, rfl⟩
   refine za tok 1 ?_
   simp only [go_sem, qb, qa]
   refine zb ?_
   simp only [zd, upd, qa, reduceIte, zk, zo]
   apply hK
   refine zi ?_
   obtain rfl := Option.some.inj h
   exact yy
 obtain ⟨hz4, hw4, hx4, hE'4, hi'4⟩ := ye hE4 hi4 hb4
 simp only [yB.l4] at h
 refine rg tok [1, 8, 9, 10, 11] fun K hK => ?_
 simp only [go_sem, qb, qa, hz4]
 apply hK
 refine ze fun Z7 hZ7 => ?_
 refine zA rfl ?_
 refine zf ?_
 apply hZ7
 refine ze fun Z8 hZ8 => ?_
 refine zj ?_
 have f9 := E28.idxS hx4
 have f10 := E28.loadS rfl rfl hx4
 refine rg tok [1, 4, 8, 9, 10] fun K hK => ?_
 simp only [go_sem, qb, qe, qa, qd, encGRaw, f9, f10]
 apply hK
 refine ze fun Z11 hZ11 => ?_
 refine rc [1, 4, 8, 9, 10, 16] fun K hK => ?_
 obtain ⟨r12, hr12, h⟩ := zW h
 refine za tok 1 ?_
 simp only [go_sem, qb, qe, qa, qd]
 refine zh rfl rfl rfl (yD.ev y4 r12 hr12 _) ?_
 rintro _ _ ⟨rfl, rfl⟩
 refine za tok 1 ?_
 simp only [go_sem, qb, qa]
 refine zb ?_
 simp only [zd, upd, qa, reduceIte, zk, zo]
 apply hK
 refine zt (b := (!r12)) rfl (fun hc13 => ?_) (fun hc13 => ?_)
 · rw [if_pos hc13] at h
   refine rg tok [2] fun K hK => ?_
   simp only [go_sem, qb, qa]
   apply hK
   refine zi ?_
   obtain rfl := Option.some.inj h
   exact yy
 rw [xK hc13] at h
 refine zf ?_
 apply hZ11
 refine rg tok [1, 4, 8, 9, 10, 18, 19, 20] fun K hK => ?_
 simp only [go_sem, qb, qa, qd]
 apply hK
 refine zj ?_
 refine xh 18 fun hb16 => ?_
 replace hb16 : qc a0.fEntries ≤ 9223372036854775807 := hb16.1
 refine zB (fun m L τ => ∃ (p16 q16 : List GEntry) (x14 : Int), m = qc q16 ∧ L = [(1, .op 0 0 0), (4, .op 1 0 0), (8, .ds true (qf encGRaw a0.fRest) (qc a0.fRest) false), (9, .int .i64 (qc a0.fRest : Int)), (10, .int .i64 x2), (18, .ds true (qf encGEntry a0.fEntries) (qc a0.fEntries) false), (19, .int .i64 (qc a0.fEntries : Int)), (20, .int .i64 x14)] ∧ τ = ([.cells 0 (cellsGTree a0), .cells 0 [.int .i64 y4.fTag, .int .i64 y4.fWire, .int .i64 y4.fN, .str y4.fB]] : Store) ∧ a0.fEntries = p16 ++ q16 ∧ x14 = (qc p16 : Int) ∧ yB.l16 x2 (yB.l4 a0 q4) y4 q16 x14 = some r) _ ⟨[], a0.fEntries, 0, rfl, rfl, rfl, rfl, rfl, h⟩ .s ?_
 rintro m L τ ⟨p16, q16, x14, rfl, rfl, rfl, hE16, hi16, h⟩
 rcases q16 with _ | ⟨y16, q16⟩
 · have hz16 := yC hE16 hi16
   simp only [yB.l16] at h
   refine rg tok [1, 4, 8, 9, 10, 18, 19, 20, 21] fun K hK => ?_
   simp only [go_sem, qb, qa, hz16]
   apply hK
   refine ze fun Z17 hZ17 => ?_
   refine zx rfl ?_
   refine zJ ?_
   apply hZ8
   refine rgE tok [1, 8, 9, 10] fun K hK => ?_
   simp only [go_sem, qb, qa, hw4]
   apply hK
   exact ⟨_, _, _, qw q4.length, ⟨p4 ++ [y4], q4, x2 + 1, rfl, rfl, rfl, hE'4, hi'4, h⟩, (.t [0] false)⟩
 obtain ⟨hz16, hw16, hx16, hE'16, hi'16⟩ := ye hE16 hi16 hb16
 simp only [yB.l16] at h
 refine rg tok [1, 4, 8, 9, 10, 18, 19, 20, 21] fun K hK => ?_
 simp only [go_sem, qb, qa, hz16]
 apply hK
 refine ze fun Z18 hZ18 => ?_
 refine zA rfl ?_
 refine zf ?_
 apply hZ18
 refine ze fun Z19 hZ19 => ?_
 refine zj ?_
 have f20 := E27.idxS hx16
 have f21 := E27.loadS rfl rfl hx16
 refine rg tok [1, 4, 6, 8, 9, 10, 18, 19, 20] fun K hK => ?_
 simp only [go_sem, qb, qe, qa, qd, cellsGEntry, yo, f20, f21]
 apply hK
 refine rg tok [1, 4, 8, 9, 10, 18, 19, 20, 28] fun K hK => ?_
 simp only [go_sem, qb, qa, qd]
 apply hK
 refine zI rfl (fun hc22 => ?_) (fun hc22 => ?_)
 · rw [if_pos hc22] at h
   have t23 := eq_true hc22
   refine rg tok [2] fun K hK => ?_
   simp only [go_sem, qb, qa, t23]
   apply hK
   refine zi ?_
   obtain rfl := Option.some.inj h
   exact yy
 rw [if_neg hc22] at h
 have t24 := eq_false hc22
 refine zf ?_
 apply hZ19
 refine rgE tok [1, 4, 8, 9, 10, 18, 19, 20] fun K hK => ?_
 simp only [go_sem, qb, qa, hw16, t24]
 apply hK
 exact ⟨_, _, _, qw q16.length, ⟨p16 ++ [y16], q16, x14 + 1, rfl, rfl, rfl, hE'16, hi'16, h⟩, (.t [0, 1] false)⟩
theorem yB.ev (a0 : GTree) (r : Bool) (h : yB a0 = some r) (σ : Store) : ACalls qh 154 [.agg (cellsGTree a0)] σ (fun r' σ' => r' = .bool r ∧ σ' = σ) :=
 (yB.ok a0 r h).c σ
def zv.j25 (x16 : Int) (rec18 : Int → Option Bool) (x24 : Bool) : Option Bool :=
 (if x24 = true then some false else (rec18 (x16 + 1)))
def zv.l18 (z6 : GTree → Option Bool) (x3 : Int) (rec6 : Int → Int → Option Bool) (y6 : GEntry) : List GTree → Int → Option Bool
 | [], x16 => (rec6 (x3 + 1) y6.fTag)
 | y18 :: q18, x16 => (wW y6.fTrees 0).bind fun y27 => (if y18.fKind = y27.fKind then (z6 y18).bind fun r32 => (zv.j25 x16 (zv.l18 z6 x3 rec6 y6 q18) (!r32)) else (zv.j25 x16 (zv.l18 z6 x3 rec6 y6 q18) true))
def zv.l6 (z6 : GTree → Option Bool) : List GEntry → Int → Int → Option Bool
 | [], x3, x2 => some true
 | y6 :: q6, x3, x2 => (if ((((decide (y6.fTag ≤ x2)) || (decide (500 < y6.fTag))) || (decide ((qc y6.fTrees : Int) < 1))) || (decide (64 < (qc y6.fTrees : Int)))) = true then some false else (zv.l18 z6 x3 (zv.l6 z6 q6) y6 y6.fTrees 0))
def zv.body (xu : GTree → Option Bool) (z6 : GTree → Option Bool) (a0 : GTree) : Option Bool :=
 (zv.l6 z6 a0.fEntries 0 0)
theorem zv.step (xu : GTree → Option Bool) (z6 : GTree → Option Bool) (Zy : ∀ (a0 : GTree) (r : Bool), xu a0 = some r → ACalls qh 153 [.agg (cellsGTree a0)] [] (fun r' _ => r' = .bool r)) (ZX : ∀ (a0 : GTree) (r : Bool), z6 a0 = some r → ACalls qh 132 [.agg (cellsGTree a0)] [] (fun r' _ => r' = .bool r)) (a0 : GTree) (r : Bool) (h : zv.body xu z6 a0 = some r) : ACalls qh 153 [.agg (cellsGTree a0)] [] (fun r' _ => r' = .bool r) := by
 have ev_value_entries := fun a0 r h σ => (Zy a0 r h).c σ
 have ev_value_right := fun a0 r h σ => (ZX a0 r h).c σ
 refine zm (rs := [.tmp 2]) tok Tryz.func153 rfl Tryz.ntmps153 rfl Tryz.call153 (by simp) ?_
 refine zq [(0, .agg (cellsGTree a0))] ⟨rfl, trivial⟩ ?_
 unfold zv.body at h
 refine rg tok [1] fun K hK => ?_
 simp only [go_sem, qb, qa, qd, reduceCtorEq, cellsGTree]
 apply hK
 refine rg tok [1, 3] fun K hK => ?_
 simp only [go_sem, qb, qa]
 apply hK
 refine ze fun Z1 hZ1 => ?_
 refine rg tok [3, 9, 10, 11] fun K hK => ?_
 simp only [go_sem, qb, qa, qd]
 apply hK
 refine zj ?_
 refine xh 9 fun hb6 => ?_
 replace hb6 : qc a0.fEntries ≤ 9223372036854775807 := hb6.1
 refine zB (fun m L τ => ∃ (p6 q6 : List GEntry) (x3 : Int) (x2 : Int), m = qc q6 ∧ L = [(3, .int .i64 x2), (9, .ds true (qf encGEntry a0.fEntries) (qc a0.fEntries) false), (10, .int .i64 (qc a0.fEntries : Int)), (11, .int .i64 x3)] ∧ τ = ([] : Store) ∧ a0.fEntries = p6 ++ q6 ∧ x3 = (qc p6 : Int) ∧ zv.l6 z6 q6 x3 x2 = some r) _ ⟨[], a0.fEntries, 0, 0, rfl, rfl, rfl, rfl, rfl, h⟩ (.t [] false) ?_
 rintro m L τ ⟨p6, q6, x3, x2, rfl, rfl, rfl, hE6, hi6, h⟩
 rcases q6 with _ | ⟨y6, q6⟩
 · have hz6 := yC hE6 hi6
   simp only [zv.l6] at h
   refine rg tok [3, 9, 10, 11, 12] fun K hK => ?_
   simp only [go_sem, qb, qa, hz6]
   apply hK
   refine ze fun Z7 hZ7 => ?_
   refine zx rfl ?_
   refine zJ ?_
   apply hZ1
   refine rg tok [2] fun K hK => ?_
   simp only [go_sem, qb, qa]
   apply hK
   refine zi ?_
   obtain rfl := Option.some.inj h
   exact yy
 obtain ⟨hz6, hw6, hx6, hE'6, hi'6⟩ := ye hE6 hi6 hb6
 simp only [zv.l6] at h
 refine rg tok [3, 9, 10, 11, 12] fun K hK => ?_
 simp only [go_sem, qb, qa, hz6]
 apply hK
 refine ze fun Z8 hZ8 => ?_
 refine zA rfl ?_
 refine zf ?_
 apply hZ8
 refine ze fun Z9 hZ9 => ?_
 refine zj ?_
 have f10 := E27.idxS hx6
 have f11 := E27.loadS rfl rfl hx6
 refine rg tok [3, 5, 9, 10, 11] fun K hK => ?_
 simp only [go_sem, qb, qe, qa, qd, cellsGEntry, yo, f10, f11]
 apply hK
 refine ze fun Z12 hZ12 => ?_
 refine rc [5, 9, 10, 11, 35] fun K hK => ?_
 refine za tok 5 ?_
 simp only [go_sem, qb, qa, qd]
 refine zn 4 (fun L τ => L = [(5, .op 0 0 0), (9, .ds true (qf encGEntry a0.fEntries) (qc a0.fEntries) false), (10, .int .i64 (qc a0.fEntries : Int)), (11, .int .i64 x3), (23, .bool ((decide (y6.fTag ≤ x2)) || (decide (500 < y6.fTag))))] ∧ τ = ([.cells 0 (cellsGEntry y6)] : Store)) ?_ ?_
 · refine yH 19 rfl (fun hg19 => ?_) (fun hg19 => ?_)
   · have t13 := eq_true hg19
     refine za tok 4 ?_
     simp only [go_sem, qb, qa]
     refine zb ⟨rfl, _, _, ⟨rfl, rfl⟩, .p t13⟩
   have t14 := eq_false hg19
   refine za tok 4 ?_
   simp only [go_sem, qb, qa, qd]
   refine zb ⟨rfl, _, _, ⟨rfl, rfl⟩, .p t14⟩
 rintro _ _ ⟨rfl, rfl⟩
 refine za tok 1 ?_
 simp only [go_sem, qb, qa]
 refine zn 5 (fun L τ => L = [(5, .op 0 0 0), (9, .ds true (qf encGEntry a0.fEntries) (qc a0.fEntries) false), (10, .int .i64 (qc a0.fEntries : Int)), (11, .int .i64 x3), (29, .bool (((decide (y6.fTag ≤ x2)) || (decide (500 < y6.fTag))) || (decide ((qc y6.fTrees : Int) < 1))))] ∧ τ = ([.cells 0 (cellsGEntry y6)] : Store)) ?_ ?_
 · refine zQ (b := ((decide (y6.fTag ≤ x2)) || (decide (500 < y6.fTag)))) 24 rfl (fun hg24 => ?_) (fun hg24 => ?_)
   · refine za tok 5 ?_
     simp only [go_sem, qb, qa]
     refine zb ⟨rfl, _, _, ⟨rfl, rfl⟩, .b hg24⟩
   refine za tok 5 ?_
   simp only [go_sem, qb, qa, qd]
   refine zb ⟨rfl, _, _, ⟨rfl, rfl⟩, .b hg24⟩
 rintro _ _ ⟨rfl, rfl⟩
 refine za tok 1 ?_
 simp only [go_sem, qb, qa]
 refine zn 5 (fun L τ => L = [(5, .op 0 0 0), (9, .ds true (qf encGEntry a0.fEntries) (qc a0.fEntries) false), (10, .int .i64 (qc a0.fEntries : Int)), (11, .int .i64 x3), (35, .bool ((((decide (y6.fTag ≤ x2)) || (decide (500 < y6.fTag))) || (decide ((qc y6.fTrees : Int) < 1))) || (decide (64 < (qc y6.fTrees : Int)))))] ∧ τ = ([.cells 0 (cellsGEntry y6)] : Store)) ?_ ?_
 · refine zQ (b := (((decide (y6.fTag ≤ x2)) || (decide (500 < y6.fTag))) || (decide ((qc y6.fTrees : Int) < 1)))) 30 rfl (fun hg30 => ?_) (fun hg30 => ?_)
   · refine za tok 5 ?_
     simp only [go_sem, qb, qa]
     refine zb ⟨rfl, _, _, ⟨rfl, rfl⟩, .b hg30⟩
   refine za tok 5 ?_
   simp only [go_sem, qb, qa, qd]
   refine zb ⟨rfl, _, _, ⟨rfl, rfl⟩, .b hg30⟩
 rintro _ _ ⟨rfl, rfl⟩
 refine zb ?_
 simp only [zd, qa, reduceIte, zk, zo]
 apply hK
 refine zt (b := ((((decide (y6.fTag ≤ x2)) || (decide (500 < y6.fTag))) || (decide ((qc y6.fTrees : Int) < 1))) || (decide (64 < (qc y6.fTrees : Int))))) rfl (fun hc15 => ?_) (fun hc15 => ?_)
 · rw [if_pos hc15] at h
   refine rg tok [2] fun K hK => ?_
   simp only [go_sem, qb, qa]
   apply hK
   refine zi ?_
   obtain rfl := Option.some.inj h
   exact yy
 rw [xK hc15] at h
 refine zf ?_
 apply hZ12
 refine rg tok [3, 5, 9, 10, 11] fun K hK => ?_
 simp only [go_sem, qb, qa, qd]
 apply hK
 refine rg tok [3, 5, 9, 10, 11, 39, 40, 41] fun K hK => ?_
 simp only [go_sem, qb, qa, qd]
 apply hK
 refine zj ?_
 refine xh 39 fun hb18 => ?_
 replace hb18 : qc y6.fTrees ≤ 9223372036854775807 := hb18.1
 refine zB (fun m L τ => ∃ (p18 q18 : List GTree) (x16 : Int), m = qc q18 ∧ L = [(3, .int .i64 y6.fTag), (5, .op 0 0 0), (9, .ds true (qf encGEntry a0.fEntries) (qc a0.fEntries) false), (10, .int .i64 (qc a0.fEntries : Int)), (11, .int .i64 x3), (39, .ds true (qf encGTree y6.fTrees) (qc y6.fTrees) false), (40, .int .i64 (qc y6.fTrees : Int)), (41, .int .i64 x16)] ∧ τ = ([.cells 0 (cellsGEntry y6)] : Store) ∧ y6.fTrees = p18 ++ q18 ∧ x16 = (qc p18 : Int) ∧ zv.l18 z6 x3 (zv.l6 z6 q6) y6 q18 x16 = some r) _ ⟨[], y6.fTrees, 0, rfl, rfl, rfl, rfl, rfl, h⟩ .s ?_
 rintro m L τ ⟨p18, q18, x16, rfl, rfl, rfl, hE18, hi18, h⟩
 rcases q18 with _ | ⟨y18, q18⟩
 · have hz18 := yC hE18 hi18
   simp only [zv.l18] at h
   refine rg tok [3, 5, 9, 10, 11, 39, 40, 41, 42] fun K hK => ?_
   simp only [go_sem, qb, qa, hz18]
   apply hK
   refine ze fun Z19 hZ19 => ?_
   refine zx rfl ?_
   refine zJ ?_
   apply hZ9
   refine rgE tok [3, 9, 10, 11] fun K hK => ?_
   simp only [go_sem, qb, qa, hw6]
   apply hK
   exact ⟨_, _, _, qw q6.length, ⟨p6 ++ [y6], q6, x3 + 1, y6.fTag, rfl, rfl, rfl, hE'6, hi'6, h⟩, (.t [] false)⟩
 obtain ⟨hz18, hw18, hx18, hE'18, hi'18⟩ := ye hE18 hi18 hb18
 simp only [zv.l18] at h
 refine rg tok [3, 5, 9, 10, 11, 39, 40, 41, 42] fun K hK => ?_
 simp only [go_sem, qb, qa, hz18]
 apply hK
 refine ze fun Z20 hZ20 => ?_
 refine zA rfl ?_
 refine zf ?_
 apply hZ20
 refine ze fun Z21 hZ21 => ?_
 refine zj ?_
 have f22 := E90.idxS hx18
 have f23 := E90.loadS rfl rfl hx18
 refine rg tok [3, 5, 7, 9, 10, 11, 39, 40, 41] fun K hK => ?_
 simp only [go_sem, qb, qe, qa, qd, cellsGTree, yp, f22, f23]
 apply hK
 refine xN (fun L τ => ∃ (x24 : Bool), L = [(3, .int .i64 y6.fTag), (5, .op 0 0 0), (9, .ds true (qf encGEntry a0.fEntries) (qc a0.fEntries) false), (10, .int .i64 (qc a0.fEntries : Int)), (11, .int .i64 x3), (39, .ds true (qf encGTree y6.fTrees) (qc y6.fTrees) false), (40, .int .i64 (qc y6.fTrees : Int)), (41, .int .i64 x16), (57, .bool x24)] ∧ τ = ([.cells 0 (cellsGEntry y6)] : Store) ∧ zv.j25 x16 (zv.l18 z6 x3 (zv.l6 z6 q6) y6 q18) x24 = some r) ?_ ?_
 · refine rdE [3, 5, 9, 10, 11, 39, 40, 41, 57] fun K hK => ?_
   refine DW.start (T := tab) [.any, .at [], .any, .at [], .any, .any, .at [], .any, .any, .at [], .eff, .any, .any] [] ?_
   obtain ⟨y27, hy27, h⟩ := bind_some h
   have f28 := E90.idxS hy27
   have f29 := E90.fldS0 (f := 3) rfl rfl hy27
   refine DW.runN tok 8 ?_
   simp only [go_sem, qb, qa, qd, cellsGTree, yp, f28, f29]
   refine DW.runN tok 1 ?_
   simp only [go_sem, qb, qa]
   refine DW.if 53 rfl (fun hg53 => ?_) (fun hg53 => ?_)
   · rw [if_neg hg53] at h
     have t30 := eq_false hg53
     refine DW.runN tok 4 ?_
     simp only [go_sem, qb, qa, t30]
     refine DW.fin tok (by decide +kernel) rfl ?_
     simp only [zd, upd, qa, reduceIte, zk, zo]
     apply hK
     exact ⟨_, _, ⟨true, rfl, rfl, h⟩, (.t [0] false)⟩
   rw [if_pos hg53] at h
   have t31 := eq_true hg53
   obtain ⟨r32, hr32, h⟩ := bind_some h
   refine DW.runN tok 1 ?_
   simp only [go_sem, qb, qe, qa, qd, t31]
   refine DW.call rfl rfl rfl (ev_value_right y18 r32 hr32 _) ?_
   refine DW.runN tok 2 ?_
   simp only [go_sem, qb, qa]
   refine DW.fin tok (by decide +kernel) rfl ?_
   simp only [zd, upd, qa, reduceIte, zk, zo]
   apply hK
   exact ⟨_, _, ⟨!r32, rfl, rfl, h⟩, (.t [0] false)⟩
 rintro _ _ ⟨x24, rfl, rfl, h⟩
 unfold zv.j25 at h
 refine zt (b := x24) rfl (fun hc26 => ?_) (fun hc26 => ?_)
 · rw [if_pos hc26] at h
   refine rg tok [2] fun K hK => ?_
   simp only [go_sem, qb, qa]
   apply hK
   refine zi ?_
   obtain rfl := Option.some.inj h
   exact yy
 rw [xK hc26] at h
 refine zf ?_
 apply hZ21
 refine rgE tok [3, 5, 9, 10, 11, 39, 40, 41] fun K hK => ?_
 simp only [go_sem, qb, qa, hw18]
 apply hK
 exact ⟨_, _, _, qw q18.length, ⟨p18 ++ [y18], q18, x16 + 1, rfl, rfl, rfl, hE'18, hi'18, h⟩, .s⟩
def yS.body (xu : GTree → Option Bool) (z6 : GTree → Option Bool) (a0 : GTree) : Option Bool :=
 (if a0.fKind = 1 then some (((decide (a0.fS = [])) && (decide ((qc a0.fEntries : Int) = 0))) && (decide ((qc a0.fRest : Int) = 0))) else (if a0.fKind = 2 then some (((decide (a0.fN = 0)) && (decide ((qc a0.fEntries : Int) = 0))) && (decide ((qc a0.fRest : Int) = 0))) else (if a0.fKind = 3 then (if ((decide (a0.fN = 0)) && (decide (a0.fS = []))) = true then (xu a0).bind fun r16 => some r16 else some false).bind fun c16 => (if c16 = true then (yB a0).bind fun r18 => some r18 else some false).bind fun c18 => some c18 else some false)))
theorem yS.step (xu : GTree → Option Bool) (z6 : GTree → Option Bool) (Zy : ∀ (a0 : GTree) (r : Bool), xu a0 = some r → ACalls qh 153 [.agg (cellsGTree a0)] [] (fun r' _ => r' = .bool r)) (ZX : ∀ (a0 : GTree) (r : Bool), z6 a0 = some r → ACalls qh 132 [.agg (cellsGTree a0)] [] (fun r' _ => r' = .bool r)) (a0 : GTree) (r : Bool) (h : yS.body xu z6 a0 = some r) : ACalls qh 132 [.agg (cellsGTree a0)] [] (fun r' _ => r' = .bool r) := by
 have ev_value_entries := fun a0 r h σ => (Zy a0 r h).c σ
 have ev_value_right := fun a0 r h σ => (ZX a0 r h).c σ
 refine zm (rs := [.tmp 2]) tok Tryz.func132 rfl Tryz.ntmps132 rfl Tryz.call132 (by simp) ?_
 refine zq [(0, .agg (cellsGTree a0))] ⟨rfl, trivial⟩ ?_
 unfold yS.body at h
 refine rg tok [1] fun K hK => ?_
 simp only [go_sem, qb, qa, qd, reduceCtorEq, cellsGTree]
 apply hK
 refine ze fun Z1 hZ1 => ?_
 refine rg tok [1, 4] fun K hK => ?_
 simp only [go_sem, qb, qa, qd]
 apply hK
 refine zj ?_
 refine rg tok [1, 4, 5] fun K hK => ?_
 simp only [go_sem, qb, qa]
 apply hK
 refine zI rfl (fun hc2 => ?_) (fun hc2 => ?_)
 · rw [if_pos hc2] at h
   have t3 := eq_true hc2
   refine rc [2] fun K hK => ?_
   refine za tok 4 ?_
   simp only [go_sem, qb, qa, qd, t3]
   refine zn 5 (fun L τ => L = [(1, .op 0 0 0), (15, .bool ((decide (a0.fS = [])) && (decide ((qc a0.fEntries : Int) = 0))))] ∧ τ = ([.cells 0 (cellsGTree a0)] : Store)) ?_ ?_
   · refine yH 10 rfl (fun hg10 => ?_) (fun hg10 => ?_)
     · have t4 := eq_true hg10
       refine za tok 5 ?_
       simp only [go_sem, qb, qa, qd]
       refine zb ⟨rfl, _, _, ⟨rfl, rfl⟩, .p t4⟩
     have t5 := eq_false hg10
     refine za tok 5 ?_
     simp only [go_sem, qb, qa]
     refine zb ⟨rfl, _, _, ⟨rfl, rfl⟩, .p t5⟩
   rintro _ _ ⟨rfl, rfl⟩
   refine za tok 1 ?_
   simp only [go_sem, qb, qa]
   refine zn 5 (fun L τ => L = [(21, .bool (((decide (a0.fS = [])) && (decide ((qc a0.fEntries : Int) = 0))) && (decide ((qc a0.fRest : Int) = 0))))] ∧ τ = ([.cells 0 (cellsGTree a0)] : Store)) ?_ ?_
   · refine zQ (b := ((decide (a0.fS = [])) && (decide ((qc a0.fEntries : Int) = 0)))) 16 rfl (fun hg16 => ?_) (fun hg16 => ?_)
     · refine za tok 5 ?_
       simp only [go_sem, qb, qa, qd]
       refine zb ⟨rfl, _, _, ⟨rfl, rfl⟩, .b hg16⟩
     refine za tok 5 ?_
     simp only [go_sem, qb, qa]
     refine zb ⟨rfl, _, _, ⟨rfl, rfl⟩, .b hg16⟩
   rintro _ _ ⟨rfl, rfl⟩
   refine za tok 1 ?_
   simp only [go_sem, qb]
   refine zb ?_
   simp only [zd, upd, qa, reduceIte, zk, zo]
   apply hK
   refine zi ?_
   obtain rfl := Option.some.inj h
   exact yy
 rw [if_neg hc2] at h
 have t6 := eq_false hc2
 refine rg tok [1, 4, 22] fun K hK => ?_
 simp only [go_sem, qb, qa, t6]
 apply hK
 refine zI rfl (fun hc7 => ?_) (fun hc7 => ?_)
 · rw [if_pos hc7] at h
   have t8 := eq_true hc7
   refine rc [2] fun K hK => ?_
   refine za tok 4 ?_
   simp only [go_sem, qb, qa, qd, t8]
   refine zn 5 (fun L τ => L = [(1, .op 0 0 0), (32, .bool ((decide (a0.fN = 0)) && (decide ((qc a0.fEntries : Int) = 0))))] ∧ τ = ([.cells 0 (cellsGTree a0)] : Store)) ?_ ?_
   · refine yH 27 rfl (fun hg27 => ?_) (fun hg27 => ?_)
     · have t9 := eq_true hg27
       refine za tok 5 ?_
       simp only [go_sem, qb, qa, qd]
       refine zb ⟨rfl, _, _, ⟨rfl, rfl⟩, .p t9⟩
     have t10 := eq_false hg27
     refine za tok 5 ?_
     simp only [go_sem, qb, qa]
     refine zb ⟨rfl, _, _, ⟨rfl, rfl⟩, .p t10⟩
   rintro _ _ ⟨rfl, rfl⟩
   refine za tok 1 ?_
   simp only [go_sem, qb, qa]
   refine zn 5 (fun L τ => L = [(38, .bool (((decide (a0.fN = 0)) && (decide ((qc a0.fEntries : Int) = 0))) && (decide ((qc a0.fRest : Int) = 0))))] ∧ τ = ([.cells 0 (cellsGTree a0)] : Store)) ?_ ?_
   · refine zQ (b := ((decide (a0.fN = 0)) && (decide ((qc a0.fEntries : Int) = 0)))) 33 rfl (fun hg33 => ?_) (fun hg33 => ?_)
     · refine za tok 5 ?_
       simp only [go_sem, qb, qa, qd]
       refine zb ⟨rfl, _, _, ⟨rfl, rfl⟩, .b hg33⟩
     refine za tok 5 ?_
     simp only [go_sem, qb, qa]
     refine zb ⟨rfl, _, _, ⟨rfl, rfl⟩, .b hg33⟩
   rintro _ _ ⟨rfl, rfl⟩
   refine za tok 1 ?_
   simp only [go_sem, qb]
   refine zb ?_
   simp only [zd, upd, qa, reduceIte, zk, zo]
   apply hK
   refine zi ?_
   obtain rfl := Option.some.inj h
   exact yy
 rw [if_neg hc7] at h
 have t11 := eq_false hc7
 refine rg tok [1, 39] fun K hK => ?_
 simp only [go_sem, qb, qa, t11]
 apply hK
 refine zI rfl (fun hc12 => ?_) (fun hc12 => ?_)
 · rw [if_pos hc12] at h
   have t13 := eq_true hc12
   refine rc [2] fun K hK => ?_
   refine za tok 4 ?_
   simp only [go_sem, qb, qa, qd, t13]
   refine zn 4 (fun L τ => L = [(1, .op 0 0 0), (48, .bool ((decide (a0.fN = 0)) && (decide (a0.fS = []))))] ∧ τ = ([.cells 0 (cellsGTree a0)] : Store)) ?_ ?_
   · refine yH 44 rfl (fun hg44 => ?_) (fun hg44 => ?_)
     · have t14 := eq_true hg44
       refine za tok 4 ?_
       simp only [go_sem, qb, qa, qd]
       refine zb ⟨rfl, _, _, ⟨rfl, rfl⟩, .p t14⟩
     have t15 := eq_false hg44
     refine za tok 4 ?_
     simp only [go_sem, qb, qa]
     refine zb ⟨rfl, _, _, ⟨rfl, rfl⟩, .p t15⟩
   rintro _ _ ⟨rfl, rfl⟩
   refine za tok 1 ?_
   simp only [go_sem, qb, qa]
   obtain ⟨c16, hc16, h⟩ := bind_some h
   refine zn 3 (fun L τ => L = [(1, .op 0 0 0), (52, .bool c16)] ∧ τ = ([.cells 0 (cellsGTree a0)] : Store)) ?_ ?_
   · refine zQ (b := ((decide (a0.fN = 0)) && (decide (a0.fS = [])))) 49 rfl (fun hg49 => ?_) (fun hg49 => ?_)
     · rw [if_pos hg49] at hc16
       obtain ⟨r17, hr17, hc16⟩ := bind_some hc16
       refine za tok 1 ?_
       simp only [go_sem, qb, qe, qa, qd]
       refine zh rfl rfl rfl (ev_value_entries a0 r17 hr17 _) ?_
       rintro _ _ ⟨rfl, rfl⟩
       refine za tok 1 ?_
       simp only [go_sem, qb, qa]
       obtain rfl := Option.some.inj hc16
       refine zb ⟨rfl, _, _, ⟨rfl, rfl⟩, .b hg49⟩
     rw [xK hg49] at hc16
     refine za tok 3 ?_
     simp only [go_sem, qb, qa]
     obtain rfl := Option.some.inj hc16
     refine zb ⟨rfl, _, _, ⟨rfl, rfl⟩, .b hg49⟩
   rintro _ _ ⟨rfl, rfl⟩
   refine za tok 1 ?_
   simp only [go_sem, qb, qa]
   obtain ⟨c18, hc18, h⟩ := bind_some h
   refine zn 3 (fun L τ => L = [(56, .bool c18)] ∧ τ = ([.cells 0 (cellsGTree a0)] : Store)) ?_ ?_
   · refine zQ (b := c16) 53 rfl (fun hg53 => ?_) (fun hg53 => ?_)
     · rw [if_pos hg53] at hc18
       obtain ⟨r19, hr19, hc18⟩ := bind_some hc18
       refine za tok 1 ?_
       simp only [go_sem, qb, qe, qa, qd]
       refine zh rfl rfl rfl (yB.ev a0 r19 hr19 _) ?_
       rintro _ _ ⟨rfl, rfl⟩
       refine za tok 1 ?_
       simp only [go_sem, qb, qa]
       obtain rfl := Option.some.inj hc18
       refine zb ⟨rfl, _, _, ⟨rfl, rfl⟩, .b hg53⟩
     rw [xK hg53] at hc18
     refine za tok 3 ?_
     simp only [go_sem, qb, qa]
     obtain rfl := Option.some.inj hc18
     refine zb ⟨rfl, _, _, ⟨rfl, rfl⟩, .b hg53⟩
   rintro _ _ ⟨rfl, rfl⟩
   refine za tok 1 ?_
   simp only [go_sem, qb]
   refine zb ?_
   simp only [zd, upd, qa, reduceIte, zk, zo]
   apply hK
   refine zi ?_
   obtain rfl := Option.some.inj h
   exact yy
 rw [if_neg hc12] at h
 have t20 := eq_false hc12
 refine zf ?_
 apply hZ1
 refine rg tok [2] fun K hK => ?_
 simp only [go_sem, qb, qa, t20]
 apply hK
 refine zi ?_
 obtain rfl := Option.some.inj h
 exact yy
mutual
def zv : Nat → GTree → Option Bool
 | 0, _ => none
 | k + 1, a0 => zv.body (zv k) (yS k) a0
def yS : Nat → GTree → Option Bool
 | 0, _ => none
 | k + 1, a0 => yS.body (zv k) (yS k) a0
end
theorem zv.all (k : Nat) : (∀ (a0 : GTree) (r : Bool), zv k a0 = some r → ACalls qh 153 [.agg (cellsGTree a0)] [] (fun r' _ => r' = .bool r)) ∧ (∀ (a0 : GTree) (r : Bool), yS k a0 = some r → ACalls qh 132 [.agg (cellsGTree a0)] [] (fun r' _ => r' = .bool r)) := by
 induction k with
 | zero => exact ⟨(fun a0 r h => by simp only [zv] at h; cases h), (fun a0 r h => by simp only [yS] at h; cases h)⟩
 | succ k ih => exact ⟨(fun a0 r h => zv.step _ _ ih.1 ih.2 a0 r (by simpa only [zv] using h)), (fun a0 r h => yS.step _ _ ih.1 ih.2 a0 r (by simpa only [yS] using h))⟩
theorem yS.ev (k : Nat) (a0 : GTree) (r : Bool) (h : yS k a0 = some r) (σ : Store) : ACalls qh 132 [.agg (cellsGTree a0)] σ (fun r' σ' => r' = .bool r ∧ σ' = σ) :=
 ((zv.all k).2 a0 r h).c σ
def wn (a0 : GTree) : Option Bool :=
 (wm a0).bind fun r1 => (if r1 ≤ 10 then (yS rounds a0).bind fun r2 => some r2 else some false).bind fun c2 => some c2
theorem wn.ok (a0 : GTree) (r : Bool) (h : wn a0 = some r) : ACalls qh 96 [.agg (cellsGTree a0)] [] (fun r' _ => r' = .bool r) := by
 refine zm (rs := [.tmp 2]) tok Tryz.func96 rfl Tryz.ntmps96 rfl Tryz.call96 (by simp) ?_
 refine zq [(0, .agg (cellsGTree a0))] ⟨rfl, trivial⟩ ?_
 unfold wn at h
 refine rg tok [1] fun K hK => ?_
 simp only [go_sem, qb, qa, qd, reduceCtorEq, cellsGTree]
 apply hK
 refine rc [2] fun K hK => ?_
 obtain ⟨r1, hr1, h⟩ := bind_some h
 refine za tok 1 ?_
 simp only [go_sem, qb, qe, qd]
 refine zh rfl rfl rfl (wm.ev a0 r1 hr1 _) ?_
 rintro _ _ ⟨rfl, rfl⟩
 refine za tok 2 ?_
 simp only [go_sem, qb, qa]
 obtain ⟨c2, hc2, h⟩ := bind_some h
 refine zn 3 (fun L τ => L = [(9, .bool c2)] ∧ τ = ([.cells 0 (cellsGTree a0)] : Store)) ?_ ?_
 · refine yH 6 rfl (fun hg6 => ?_) (fun hg6 => ?_)
   · have t3 := eq_true hg6
     rw [if_pos hg6] at hc2
     obtain ⟨r4, hr4, hc2⟩ := bind_some hc2
     refine za tok 1 ?_
     simp only [go_sem, qb, qe, qa, qd]
     refine zh rfl rfl rfl (yS.ev rounds a0 r4 hr4 _) ?_
     rintro _ _ ⟨rfl, rfl⟩
     refine za tok 1 ?_
     simp only [go_sem, qb, qa]
     obtain rfl := Option.some.inj hc2
     refine zb ⟨rfl, _, _, ⟨rfl, rfl⟩, .p t3⟩
   have t5 := eq_false hg6
   rw [if_neg hg6] at hc2
   refine za tok 3 ?_
   simp only [go_sem, qb, qa]
   obtain rfl := Option.some.inj hc2
   refine zb ⟨rfl, _, _, ⟨rfl, rfl⟩, .p t5⟩
 rintro _ _ ⟨rfl, rfl⟩
 refine za tok 1 ?_
 simp only [go_sem, qb]
 refine zb ?_
 simp only [zd, upd, qa, reduceIte, zk, zo]
 apply hK
 refine zi ?_
 obtain rfl := Option.some.inj h
 exact yy
theorem wn.ev (a0 : GTree) (r : Bool) (h : wn a0 = some r) (σ : Store) : ACalls qh 96 [.agg (cellsGTree a0)] σ (fun r' σ' => r' = .bool r ∧ σ' = σ) :=
 (wn.ok a0 r h).c σ
def Zw (a0 : Int) : GValueValue :=
 (GValueValue.num a0)
theorem Zw.ok (a0 : Int) (r : GValueValue) (h : Zw a0 = r) : ACalls qh 133 [.int .i64 a0] [] (fun r' _ => r' = .agg (encGValueValue r)) := by
 refine zm (rs := [.cell 2 110]) tok Tryz.func133 rfl Tryz.ntmps133 rfl Tryz.call133 (by simp) ?_
 refine zq [(0, .int .i64 a0)] ⟨rfl, trivial⟩ ?_
 unfold Zw at h
 refine rg tok [0, 2] fun K hK => ?_
 simp only [go_sem, qb, reduceCtorEq]
 apply hK
 refine rg tok [2] fun K hK => ?_
 simp only [go_sem, qb, qe, qa, reduceCtorEq]
 apply hK
 refine zi ?_
 obtain rfl := h
 exact yy
end
end Go.Proofs.YtaddlmlpeghonaaGreatDoor
