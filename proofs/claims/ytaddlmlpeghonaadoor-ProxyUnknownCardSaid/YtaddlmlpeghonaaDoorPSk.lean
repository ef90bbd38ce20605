/- Parts of the proof, cut down to what it needs. -/
import Derived.Test.YtaddlmlpeghonaaDoorPFB
import Derived.Test.YtaddlmlpeghonaaDoorPFBa
set_option linter.constructorNameAsVariable false
set_option linter.unusedSimpArgs false
set_option linter.unusedVariables false
open List renaming length → lN, flatMap → fM, length_append → lP, length_cons → lC, length_nil → lZ, mem_cons_of_mem → mO, mem_cons_self → mS, append_assoc → aA, getD_eq_getElem?_getD → gG, append_nil → aN, map_nil → mN, map_cons → mC, nil_append → nA, flatMap_append → fA, flatMap_nil → fZ, flatMap_cons → fC, mem_append → mA, cons_append → cA, pairwise_cons → pC, length_map → lM, drop_zero → dZ, getElem?_append_right → gR, getElem?_append_left → gL, map_append → mP, length_eq_zero_iff → lI, mem_cons → mI
open Option renaming bind_some → bS, some.injEq → sI
open Nat renaming reduceLT → rL, reduceLeDiff → rD, reduceEqDiff → rE, reduceAdd → rA, reduceMul → rM, reduceSub → rS, zero_add → nZ, le_refl → nR, lt_succ_self → nS
section
set_option maxRecDepth 4000
set_option maxHeartbeats 1000000
namespace Go.Proofs.YtaddlmlpeghonaaDoor
open AM
theorem ref09_rest.ev (a0 : GTree) (r : Bool) (h : ref09_rest a0 = some r) (σ : Store) : ACalls Tryd.prog 91 [.agg (cellsGTree a0)] σ (fun r' σ' => r' = .bool r ∧ σ' = σ) :=
 (ref09_rest.ok a0 r h).c σ
def ref09_check.body (self_ref09_check : GTree → Option Bool) (self_ref09_entries : (List GEntry) → Option Bool) (a0 : GTree) : Option Bool :=
 (if a0.fKind = 1 then some (((decide (a0.fS = [])) && (decide ((lN a0.fEntries : Int) = 0))) && (decide ((lN a0.fRest : Int) = 0))) else (if a0.fKind = 2 then some (((decide (a0.fN = 0)) && (decide ((lN a0.fEntries : Int) = 0))) && (decide ((lN a0.fRest : Int) = 0))) else (if a0.fKind = 3 then (if ((decide (a0.fN = 0)) && (decide (a0.fS = []))) = true then (self_ref09_entries a0.fEntries).bind fun r16 => some r16 else some false).bind fun c16 => (if c16 = true then (ref09_rest a0).bind fun r18 => some r18 else some false).bind fun c18 => some c18 else some false)))
theorem ref09_check.step (self_ref09_check : GTree → Option Bool) (self_ref09_entries : (List GEntry) → Option Bool) (ih_ref09_check : ∀ (a0 : GTree) (r : Bool), self_ref09_check a0 = some r → ACalls Tryd.prog 62 [.agg (cellsGTree a0)] [] (fun r' _ => r' = .bool r)) (ih_ref09_entries : ∀ (a0 : List GEntry) (r : Bool), self_ref09_entries a0 = some r → ACalls Tryd.prog 90 [.ds true (fM encGEntry a0) (lN a0) false] [] (fun r' _ => r' = .bool r)) (a0 : GTree) (r : Bool) (h : ref09_check.body self_ref09_check self_ref09_entries a0 = some r) : ACalls Tryd.prog 62 [.agg (cellsGTree a0)] [] (fun r' _ => r' = .bool r) := by
 have ev_ref09_check := fun a0 r h σ => (ih_ref09_check a0 r h).c σ
 have ev_ref09_entries := fun a0 r h σ => (ih_ref09_entries a0 r h).c σ
 refine zm (rs := [.tmp 2]) tok Tryd.func62 rfl Tryd.ntmps62 rfl Tryd.call62 (by simp) ?_
 refine zo [(0, .agg (cellsGTree a0))] ⟨rfl, trivial⟩ ?_
 unfold ref09_check.body at h
 refine rg tok [1] fun K hK => ?_
 simp only [go_sem, rL, rE, rA, reduceCtorEq, cellsGTree]
 refine hK _ _ ?_
 refine ze fun Z1 hZ1 => ?_
 refine rg tok [1, 4] fun K hK => ?_
 simp only [go_sem, rL, rE, rA]
 refine hK _ _ ?_
 refine zk ?_
 refine rg tok [1, 4, 5] fun K hK => ?_
 simp only [go_sem, rL, rE]
 refine hK _ _ ?_
 refine zA rfl (fun hc2 => ?_) (fun hc2 => ?_)
 · rw [if_pos hc2] at h
   have t3 := eq_true hc2
   refine rc [2] fun K hK => ?_
   refine za tok 4 ?_
   simp only [go_sem, rL, rE, rA, t3]
   refine zp 5 (fun L τ => L = ([(1, .op 0 0 0), (15, .bool ((decide (a0.fS = [])) && (decide ((lN a0.fEntries : Int) = 0))))] : List (Nat × AV)) ∧ τ = ([.cells 0 [.int .i64 a0.fKind, .int .i64 a0.fN, .str a0.fS, .ds true (fM encGEntry a0.fEntries) (lN a0.fEntries) false, .ds true (fM encGRaw a0.fRest) (lN a0.fRest) false]] : Store)) ?_ ?_
   · refine za1 10 rfl (fun hg10 => ?_) (fun hg10 => ?_)
     · have t4 := eq_true hg10
       refine za tok 5 ?_
       simp only [go_sem, rL, rE, rA]
       refine zb ⟨rfl, _, _, ⟨rfl, rfl⟩, .p t4⟩
     · have t5 := eq_false hg10
       refine za tok 5 ?_
       simp only [go_sem, rL, rE]
       refine zb ⟨rfl, _, _, ⟨rfl, rfl⟩, .p t5⟩
   rintro _ _ ⟨rfl, rfl⟩
   refine za tok 1 ?_
   simp only [go_sem, rL, rE]
   refine zp 5 (fun L τ => L = ([(21, .bool (((decide (a0.fS = [])) && (decide ((lN a0.fEntries : Int) = 0))) && (decide ((lN a0.fRest : Int) = 0))))] : List (Nat × AV)) ∧ τ = ([.cells 0 [.int .i64 a0.fKind, .int .i64 a0.fN, .str a0.fS, .ds true (fM encGEntry a0.fEntries) (lN a0.fEntries) false, .ds true (fM encGRaw a0.fRest) (lN a0.fRest) false]] : Store)) ?_ ?_
   · refine zI (b := ((decide (a0.fS = [])) && (decide ((lN a0.fEntries : Int) = 0)))) 16 rfl (fun hg16 => ?_) (fun hg16 => ?_)
     · refine za tok 5 ?_
       simp only [go_sem, rL, rE, rA]
       refine zb ⟨rfl, _, _, ⟨rfl, rfl⟩, .b hg16⟩
     · refine za tok 5 ?_
       simp only [go_sem, rL, rE]
       refine zb ⟨rfl, _, _, ⟨rfl, rfl⟩, .b hg16⟩
   rintro _ _ ⟨rfl, rfl⟩
   refine za tok 1 ?_
   simp only [go_sem, rL]
   refine zb ?_
   simp only [zd, upd, rE, reduceIte, zl, zn]
   refine hK _ _ ?_
   refine zj ?_
   obtain rfl := Option.some.inj h
   exact retA
 · rw [if_neg hc2] at h
   have t6 := eq_false hc2
   refine rg tok [1, 4, 22] fun K hK => ?_
   simp only [go_sem, rL, rE, t6]
   refine hK _ _ ?_
   refine zA rfl (fun hc7 => ?_) (fun hc7 => ?_)
   · rw [if_pos hc7] at h
     have t8 := eq_true hc7
     refine rc [2] fun K hK => ?_
     refine za tok 4 ?_
     simp only [go_sem, rL, rE, rA, t8]
     refine zp 5 (fun L τ => L = ([(1, .op 0 0 0), (32, .bool ((decide (a0.fN = 0)) && (decide ((lN a0.fEntries : Int) = 0))))] : List (Nat × AV)) ∧ τ = ([.cells 0 [.int .i64 a0.fKind, .int .i64 a0.fN, .str a0.fS, .ds true (fM encGEntry a0.fEntries) (lN a0.fEntries) false, .ds true (fM encGRaw a0.fRest) (lN a0.fRest) false]] : Store)) ?_ ?_
     · refine za1 27 rfl (fun hg27 => ?_) (fun hg27 => ?_)
       · have t9 := eq_true hg27
         refine za tok 5 ?_
         simp only [go_sem, rL, rE, rA]
         refine zb ⟨rfl, _, _, ⟨rfl, rfl⟩, .p t9⟩
       · have t10 := eq_false hg27
         refine za tok 5 ?_
         simp only [go_sem, rL, rE]
         refine zb ⟨rfl, _, _, ⟨rfl, rfl⟩, .p t10⟩
     rintro _ _ ⟨rfl, rfl⟩
     refine za tok 1 ?_
     simp only [go_sem, rL, rE]
     refine zp 5 (fun L τ => L = ([(38, .bool (((decide (a0.fN = 0)) && (decide ((lN a0.fEntries : Int) = 0))) && (decide ((lN a0.fRest : Int) = 0))))] : List (Nat × AV)) ∧ τ = ([.cells 0 [.int .i64 a0.fKind, .int .i64 a0.fN, .str a0.fS, .ds true (fM encGEntry a0.fEntries) (lN a0.fEntries) false, .ds true (fM encGRaw a0.fRest) (lN a0.fRest) false]] : Store)) ?_ ?_
     · refine zI (b := ((decide (a0.fN = 0)) && (decide ((lN a0.fEntries : Int) = 0)))) 33 rfl (fun hg33 => ?_) (fun hg33 => ?_)
       · refine za tok 5 ?_
         simp only [go_sem, rL, rE, rA]
         refine zb ⟨rfl, _, _, ⟨rfl, rfl⟩, .b hg33⟩
       · refine za tok 5 ?_
         simp only [go_sem, rL, rE]
         refine zb ⟨rfl, _, _, ⟨rfl, rfl⟩, .b hg33⟩
     rintro _ _ ⟨rfl, rfl⟩
     refine za tok 1 ?_
     simp only [go_sem, rL]
     refine zb ?_
     simp only [zd, upd, rE, reduceIte, zl, zn]
     refine hK _ _ ?_
     refine zj ?_
     obtain rfl := Option.some.inj h
     exact retA
   · rw [if_neg hc7] at h
     have t11 := eq_false hc7
     refine rg tok [1, 39] fun K hK => ?_
     simp only [go_sem, rL, rE, t11]
     refine hK _ _ ?_
     refine zA rfl (fun hc12 => ?_) (fun hc12 => ?_)
     · rw [if_pos hc12] at h
       have t13 := eq_true hc12
       refine rc [2] fun K hK => ?_
       refine za tok 4 ?_
       simp only [go_sem, rL, rE, rA, t13]
       refine zp 4 (fun L τ => L = ([(1, .op 0 0 0), (48, .bool ((decide (a0.fN = 0)) && (decide (a0.fS = []))))] : List (Nat × AV)) ∧ τ = ([.cells 0 [.int .i64 a0.fKind, .int .i64 a0.fN, .str a0.fS, .ds true (fM encGEntry a0.fEntries) (lN a0.fEntries) false, .ds true (fM encGRaw a0.fRest) (lN a0.fRest) false]] : Store)) ?_ ?_
       · refine za1 44 rfl (fun hg44 => ?_) (fun hg44 => ?_)
         · have t14 := eq_true hg44
           refine za tok 4 ?_
           simp only [go_sem, rL, rE, rA]
           refine zb ⟨rfl, _, _, ⟨rfl, rfl⟩, .p t14⟩
         · have t15 := eq_false hg44
           refine za tok 4 ?_
           simp only [go_sem, rL, rE]
           refine zb ⟨rfl, _, _, ⟨rfl, rfl⟩, .p t15⟩
       rintro _ _ ⟨rfl, rfl⟩
       refine za tok 1 ?_
       simp only [go_sem, rL, rE]
       obtain ⟨c16, hc16, h⟩ := bind_some h
       refine zp 4 (fun L τ => L = ([(1, .op 0 0 0), (53, .bool c16)] : List (Nat × AV)) ∧ τ = ([.cells 0 [.int .i64 a0.fKind, .int .i64 a0.fN, .str a0.fS, .ds true (fM encGEntry a0.fEntries) (lN a0.fEntries) false, .ds true (fM encGRaw a0.fRest) (lN a0.fRest) false]] : Store)) ?_ ?_
       · refine zI (b := ((decide (a0.fN = 0)) && (decide (a0.fS = [])))) 49 rfl (fun hg49 => ?_) (fun hg49 => ?_)
         · rw [if_pos hg49] at hc16
           obtain ⟨r17, hr17, hc16⟩ := bind_some hc16
           refine za tok 2 ?_
           simp only [go_sem, rL, rE, rA]
           refine zh rfl rfl rfl (ev_ref09_entries a0.fEntries r17 hr17 _) ?_
           rintro _ _ ⟨rfl, rfl⟩
           refine za tok 1 ?_
           simp only [go_sem, rL, rE]
           obtain rfl := Option.some.inj hc16
           refine zb ⟨rfl, _, _, ⟨rfl, rfl⟩, .b hg49⟩
         · rw [if_F hg49] at hc16
           refine za tok 4 ?_
           simp only [go_sem, rL, rE]
           obtain rfl := Option.some.inj hc16
           refine zb ⟨rfl, _, _, ⟨rfl, rfl⟩, .b hg49⟩
       rintro _ _ ⟨rfl, rfl⟩
       refine za tok 1 ?_
       simp only [go_sem, rL, rE]
       obtain ⟨c18, hc18, h⟩ := bind_some h
       refine zp 3 (fun L τ => L = ([(57, .bool c18)] : List (Nat × AV)) ∧ τ = ([.cells 0 [.int .i64 a0.fKind, .int .i64 a0.fN, .str a0.fS, .ds true (fM encGEntry a0.fEntries) (lN a0.fEntries) false, .ds true (fM encGRaw a0.fRest) (lN a0.fRest) false]] : Store)) ?_ ?_
       · refine zI (b := c16) 54 rfl (fun hg54 => ?_) (fun hg54 => ?_)
         · rw [if_pos hg54] at hc18
           obtain ⟨r19, hr19, hc18⟩ := bind_some hc18
           refine za tok 1 ?_
           simp only [go_sem, rL, rD, rE, rA]
           refine zh rfl rfl rfl (ref09_rest.ev a0 r19 hr19 _) ?_
           rintro _ _ ⟨rfl, rfl⟩
           refine za tok 1 ?_
           simp only [go_sem, rL, rE]
           obtain rfl := Option.some.inj hc18
           refine zb ⟨rfl, _, _, ⟨rfl, rfl⟩, .b hg54⟩
         · rw [if_F hg54] at hc18
           refine za tok 3 ?_
           simp only [go_sem, rL, rE]
           obtain rfl := Option.some.inj hc18
           refine zb ⟨rfl, _, _, ⟨rfl, rfl⟩, .b hg54⟩
       rintro _ _ ⟨rfl, rfl⟩
       refine za tok 1 ?_
       simp only [go_sem, rL]
       refine zb ?_
       simp only [zd, upd, rE, reduceIte, zl, zn]
       refine hK _ _ ?_
       refine zj ?_
       obtain rfl := Option.some.inj h
       exact retA
     · rw [if_neg hc12] at h
       have t20 := eq_false hc12
       refine zi ?_
       refine hZ1 _ _ ?_
       refine rg tok [2] fun K hK => ?_
       simp only [go_sem, rL, rE, t20]
       refine hK _ _ ?_
       refine zj ?_
       obtain rfl := Option.some.inj h
       exact retA
def ref09_entries.j23 (x16 : Int) (rec18 : Int → Option Bool) (x22 : Bool) : Option Bool :=
 (if x22 = true then some false else (rec18 (x16 + 1)))
def ref09_entries.l18 (self_ref09_check : GTree → Option Bool) (x3 : Int) (rec6 : Int → Int → Option Bool) (y6 : GEntry) : List GTree → Int → Option Bool
 | [], x16 => (rec6 (x3 + 1) y6.fTag)
 | y18 :: q18, x16 => (idxL y6.fTrees 0).bind fun y27 => (if y18.fKind = y27.fKind then (self_ref09_check y18).bind fun r34 => (ref09_entries.j23 x16 (ref09_entries.l18 self_ref09_check x3 rec6 y6 q18) (!r34)) else (ref09_entries.j23 x16 (ref09_entries.l18 self_ref09_check x3 rec6 y6 q18) true))
def ref09_entries.l6 (self_ref09_check : GTree → Option Bool) : List GEntry → Int → Int → Option Bool
 | [], x3, x2 => some true
 | y6 :: q6, x3, x2 => (if ((((decide (y6.fTag ≤ x2)) || (decide (500 < y6.fTag))) || (decide ((lN y6.fTrees : Int) < 1))) || (decide (64 < (lN y6.fTrees : Int)))) = true then some false else (ref09_entries.l18 self_ref09_check x3 (ref09_entries.l6 self_ref09_check q6) y6 y6.fTrees 0))
def ref09_entries.body (self_ref09_check : GTree → Option Bool) (self_ref09_entries : (List GEntry) → Option Bool) (a0 : List GEntry) : Option Bool :=
 (ref09_entries.l6 self_ref09_check a0 0 0)
theorem ref09_entries.step (self_ref09_check : GTree → Option Bool) (self_ref09_entries : (List GEntry) → Option Bool) (ih_ref09_check : ∀ (a0 : GTree) (r : Bool), self_ref09_check a0 = some r → ACalls Tryd.prog 62 [.agg (cellsGTree a0)] [] (fun r' _ => r' = .bool r)) (ih_ref09_entries : ∀ (a0 : List GEntry) (r : Bool), self_ref09_entries a0 = some r → ACalls Tryd.prog 90 [.ds true (fM encGEntry a0) (lN a0) false] [] (fun r' _ => r' = .bool r)) (a0 : List GEntry) (r : Bool) (h : ref09_entries.body self_ref09_check self_ref09_entries a0 = some r) : ACalls Tryd.prog 90 [.ds true (fM encGEntry a0) (lN a0) false] [] (fun r' _ => r' = .bool r) := by
 have ev_ref09_check := fun a0 r h σ => (ih_ref09_check a0 r h).c σ
 have ev_ref09_entries := fun a0 r h σ => (ih_ref09_entries a0 r h).c σ
 refine zm (rs := [.tmp 2]) tok Tryd.func90 rfl Tryd.ntmps90 rfl Tryd.call90 (by simp) ?_
 refine zo [(0, .ds true (fM encGEntry a0) (lN a0) false)] ⟨rfl, trivial⟩ ?_
 unfold ref09_entries.body at h
 refine rg tok [0] fun K hK => ?_
 simp only [go_sem, rL, reduceCtorEq]
 refine hK _ _ ?_
 refine rg tok [0, 3] fun K hK => ?_
 simp only [go_sem, rL, reduceCtorEq]
 refine hK _ _ ?_
 refine ze fun Z1 hZ1 => ?_
 refine rg tok [0, 3, 4] fun K hK => ?_
 simp only [go_sem, rL, rE, reduceCtorEq]
 refine hK _ _ ?_
 refine zk ?_
 refine zO 0 fun hb6 => ?_
 replace hb6 : lN a0 ≤ 9223372036854775807 := hb6.1
 refine zw (fun m L τ => ∃ (p6 q6 : List GEntry) (x3 : Int) (x2 : Int), m = lN q6 ∧ L = ([(0, .ds true (fM encGEntry a0) (lN a0) false), (3, .int .i64 x2), (4, .int .i64 x3)] : List (Nat × AV)) ∧ τ = ([] : Store) ∧ a0 = p6 ++ q6 ∧ x3 = (lN p6 : Int) ∧ ref09_entries.l6 self_ref09_check q6 x3 x2 = some r) _ ⟨[], a0, 0, 0, rfl, rfl, rfl, rfl, rfl, h⟩ .s ?_
 rintro m L τ ⟨p6, q6, x3, x2, rfl, rfl, rfl, hE6, hi6, h⟩
 rcases q6 with _ | ⟨y6, q6⟩
 · have hz6 := zN hE6 hi6
   simp only [ref09_entries.l6] at h
   refine ze fun Z7 hZ7 => ?_
   refine rg tok [0, 3, 4, 10] fun K hK => ?_
   simp only [go_sem, rL, rE, reduceCtorEq, hz6]
   refine hK _ _ ?_
   refine zq rfl ?_
   refine zz ?_
   refine hZ1 _ _ ?_
   refine rg tok [2] fun K hK => ?_
   simp only [go_sem, rL, rE, reduceCtorEq]
   refine hK _ _ ?_
   refine zj ?_
   obtain rfl := Option.some.inj h
   exact retA
 · obtain ⟨hz6, hw6, hx6, hE'6, hi'6⟩ := zK hE6 hi6 hb6
   simp only [ref09_entries.l6] at h
   refine ze fun Z8 hZ8 => ?_
   refine rg tok [0, 3, 4, 10] fun K hK => ?_
   simp only [go_sem, rL, rE, reduceCtorEq, hz6]
   refine hK _ _ ?_
   refine zt rfl ?_
   refine zi ?_
   refine hZ8 _ _ ?_
   refine ze fun Z9 hZ9 => ?_
   refine zk ?_
   have f10 := E40.idxS hx6
   have f11 := E40.loadS rfl rfl hx6
   refine rg tok [0, 3, 4, 5] fun K hK => ?_
   simp only [go_sem, rL, rD, rE, rA, reduceCtorEq, cellsGEntry, zB, f10, f11]
   refine hK _ _ ?_
   refine ze fun Z12 hZ12 => ?_
   refine rc [0, 4, 5, 37] fun K hK => ?_
   refine za tok 5 ?_
   simp only [go_sem, rL, rE, rA, reduceCtorEq]
   refine zp 4 (fun L τ => L = ([(0, .ds true (fM encGEntry a0) (lN a0) false), (4, .int .i64 x3), (5, .op 0 0 0), (25, .bool ((decide (y6.fTag ≤ x2)) || (decide (500 < y6.fTag))))] : List (Nat × AV)) ∧ τ = ([.cells 0 [.int .i64 y6.fTag, .ds true (fM encGTree y6.fTrees) (lN y6.fTrees) false]] : Store)) ?_ ?_
   · refine za1 21 rfl (fun hg21 => ?_) (fun hg21 => ?_)
     · have t13 := eq_true hg21
       refine za tok 4 ?_
       simp only [go_sem, rL, rE, reduceCtorEq]
       refine zb ⟨rfl, _, _, ⟨rfl, rfl⟩, .p t13⟩
     · have t14 := eq_false hg21
       refine za tok 4 ?_
       simp only [go_sem, rL, rE, rA, reduceCtorEq]
       refine zb ⟨rfl, _, _, ⟨rfl, rfl⟩, .p t14⟩
   rintro _ _ ⟨rfl, rfl⟩
   refine za tok 1 ?_
   simp only [go_sem, rL, rE, reduceCtorEq]
   refine zp 5 (fun L τ => L = ([(0, .ds true (fM encGEntry a0) (lN a0) false), (4, .int .i64 x3), (5, .op 0 0 0), (31, .bool (((decide (y6.fTag ≤ x2)) || (decide (500 < y6.fTag))) || (decide ((lN y6.fTrees : Int) < 1))))] : List (Nat × AV)) ∧ τ = ([.cells 0 [.int .i64 y6.fTag, .ds true (fM encGTree y6.fTrees) (lN y6.fTrees) false]] : Store)) ?_ ?_
   · refine zI (b := ((decide (y6.fTag ≤ x2)) || (decide (500 < y6.fTag)))) 26 rfl (fun hg26 => ?_) (fun hg26 => ?_)
     · refine za tok 5 ?_
       simp only [go_sem, rL, rE, reduceCtorEq]
       refine zb ⟨rfl, _, _, ⟨rfl, rfl⟩, .b hg26⟩
     · refine za tok 5 ?_
       simp only [go_sem, rL, rE, rA, reduceCtorEq]
       refine zb ⟨rfl, _, _, ⟨rfl, rfl⟩, .b hg26⟩
   rintro _ _ ⟨rfl, rfl⟩
   refine za tok 1 ?_
   simp only [go_sem, rL, rE, reduceCtorEq]
   refine zp 5 (fun L τ => L = ([(0, .ds true (fM encGEntry a0) (lN a0) false), (4, .int .i64 x3), (5, .op 0 0 0), (37, .bool ((((decide (y6.fTag ≤ x2)) || (decide (500 < y6.fTag))) || (decide ((lN y6.fTrees : Int) < 1))) || (decide (64 < (lN y6.fTrees : Int)))))] : List (Nat × AV)) ∧ τ = ([.cells 0 [.int .i64 y6.fTag, .ds true (fM encGTree y6.fTrees) (lN y6.fTrees) false]] : Store)) ?_ ?_
   · refine zI (b := (((decide (y6.fTag ≤ x2)) || (decide (500 < y6.fTag))) || (decide ((lN y6.fTrees : Int) < 1)))) 32 rfl (fun hg32 => ?_) (fun hg32 => ?_)
     · refine za tok 5 ?_
       simp only [go_sem, rL, rE, reduceCtorEq]
       refine zb ⟨rfl, _, _, ⟨rfl, rfl⟩, .b hg32⟩
     · refine za tok 5 ?_
       simp only [go_sem, rL, rE, rA, reduceCtorEq]
       refine zb ⟨rfl, _, _, ⟨rfl, rfl⟩, .b hg32⟩
   rintro _ _ ⟨rfl, rfl⟩
   refine zb ?_
   simp only [zd, rE, reduceIte, zl, zn]
   refine hK _ _ ?_
   refine zx (b := ((((decide (y6.fTag ≤ x2)) || (decide (500 < y6.fTag))) || (decide ((lN y6.fTrees : Int) < 1))) || (decide (64 < (lN y6.fTrees : Int))))) rfl (fun hc15 => ?_) (fun hc15 => ?_)
   · rw [if_pos hc15] at h
     refine rg tok [2] fun K hK => ?_
     simp only [go_sem, rL, rE, reduceCtorEq]
     refine hK _ _ ?_
     refine zj ?_
     obtain rfl := Option.some.inj h
     exact retA
   · rw [if_F hc15] at h
     refine zi ?_
     refine hZ12 _ _ ?_
     refine rg tok [0, 3, 4, 5] fun K hK => ?_
     simp only [go_sem, rL, rE, rA, reduceCtorEq]
     refine hK _ _ ?_
     refine rg tok [0, 3, 4, 5, 6] fun K hK => ?_
     simp only [go_sem, rL, rE, reduceCtorEq]
     refine hK _ _ ?_
     refine zk ?_
     refine zK1 0 rfl fun hb18 => ?_
     replace hb18 : lN y6.fTrees ≤ 9223372036854775807 := hb18.2.1.1
     refine zw (fun m L τ => ∃ (p18 q18 : List GTree) (x16 : Int), m = lN q18 ∧ L = ([(0, .ds true (fM encGEntry a0) (lN a0) false), (3, .int .i64 y6.fTag), (4, .int .i64 x3), (5, .op 0 0 0), (6, .int .i64 x16)] : List (Nat × AV)) ∧ τ = ([.cells 0 [.int .i64 y6.fTag, .ds true (fM encGTree y6.fTrees) (lN y6.fTrees) false]] : Store) ∧ y6.fTrees = p18 ++ q18 ∧ x16 = (lN p18 : Int) ∧ ref09_entries.l18 self_ref09_check x3 (ref09_entries.l6 self_ref09_check q6) y6 q18 x16 = some r) _ ⟨[], y6.fTrees, 0, rfl, rfl, rfl, rfl, rfl, h⟩ .s ?_
     rintro m L τ ⟨p18, q18, x16, rfl, rfl, rfl, hE18, hi18, h⟩
     rcases q18 with _ | ⟨y18, q18⟩
     · have hz18 := zN hE18 hi18
       simp only [ref09_entries.l18] at h
       refine ze fun Z19 hZ19 => ?_
       refine rg tok [0, 3, 4, 5, 6, 44] fun K hK => ?_
       simp only [go_sem, rL, rE, rA, reduceCtorEq, hz18]
       refine hK _ _ ?_
       refine zq rfl ?_
       refine zz ?_
       refine hZ9 _ _ ?_
       refine rgE tok [0, 3, 4] fun K hK => ?_
       simp only [go_sem, rL, rE, reduceCtorEq, hw6]
       refine hK _ _ ?_
       exact ⟨_, _, _, nS q6.length, ⟨p6 ++ [y6], q6, x3 + 1, y6.fTag, rfl, rfl, rfl, hE'6, hi'6, h⟩, (.t [] false)⟩
     · obtain ⟨hz18, hw18, hx18, hE'18, hi'18⟩ := zK hE18 hi18 hb18
       simp only [ref09_entries.l18] at h
       refine ze fun Z20 hZ20 => ?_
       refine rg tok [0, 3, 4, 5, 6, 44] fun K hK => ?_
       simp only [go_sem, rL, rE, rA, reduceCtorEq, hz18]
       refine hK _ _ ?_
       refine zt rfl ?_
       refine zi ?_
       refine hZ20 _ _ ?_
       refine ze fun Z21 hZ21 => ?_
       refine zk ?_
       refine zk1 (fun L τ => ∃ (x22 : Bool), L = ([(0, .ds true (fM encGEntry a0) (lN a0) false), (3, .int .i64 y6.fTag), (4, .int .i64 x3), (5, .op 0 0 0), (6, .int .i64 x16), (67, .bool x22)] : List (Nat × AV)) ∧ τ = ([.cells 0 [.int .i64 y6.fTag, .ds true (fM encGTree y6.fTrees) (lN y6.fTrees) false]] : Store) ∧ ref09_entries.j23 x16 (ref09_entries.l18 self_ref09_check x3 (ref09_entries.l6 self_ref09_check q6) y6 q18) x22 = some r) ?_ ?_
       · refine rdE [0, 3, 4, 5, 6, 67] fun K hK => ?_
         refine DW.start (T := tab) [.any, .at [], .any, .any, .any, .at [], .any, .at [], .any, .any, .at [], .any, .any, .any, .at [], .any, .any, .at [], .eff, .any, .any] [] ?_
         have f25 := E59.idxS hx18
         have f26 := E59.fldS0 (f := 3) rfl rfl hx18
         obtain ⟨y27, hy27, h⟩ := bind_some h
         have f28 := E59.idxS hy27
         have f29 := E59.fldS0 (f := 3) rfl rfl hy27
         refine DW.runN tok 8 ?_
         simp only [go_sem, rL, rE, rA, reduceCtorEq, cellsGTree, zR, f25, f26]
         refine DW.runN tok 5 ?_
         simp only [go_sem, rL, rE, reduceCtorEq, cellsGTree, zR, f28, f29]
         refine DW.if 59 rfl (fun hg59 => ?_) (fun hg59 => ?_)
         · rw [if_neg hg59] at h
           have t30 := eq_false hg59
           refine DW.runN tok 8 ?_
           simp only [go_sem, rL, rE, reduceCtorEq, t30]
           refine DW.fin tok (by decide +kernel) rfl ?_
           simp only [zd, upd, rE, reduceIte, zl, zn]
           refine hK _ _ ?_
           exact ⟨_, _, ⟨true, rfl, rfl, h⟩, .s⟩
         · rw [if_pos hg59] at h
           have t31 := eq_true hg59
           have f32 := E59.idxS hx18
           have f33 := E59.loadS rfl rfl hx18
           obtain ⟨r34, hr34, h⟩ := bind_some h
           refine DW.runN tok 5 ?_
           simp only [go_sem, rL, rE, rA, reduceCtorEq, cellsGTree, zR, t31, f32, f33]
           refine DW.call rfl rfl rfl (ev_ref09_check y18 r34 hr34 _) ?_
           refine DW.runN tok 2 ?_
           simp only [go_sem, rL, rE, reduceCtorEq]
           refine DW.fin tok (by decide +kernel) rfl ?_
           simp only [zd, upd, rE, reduceIte, zl, zn]
           refine hK _ _ ?_
           exact ⟨_, _, ⟨!r34, rfl, rfl, h⟩, .s⟩
       rintro _ _ ⟨x22, rfl, rfl, h⟩
       unfold ref09_entries.j23 at h
       refine zx (b := x22) rfl (fun hc24 => ?_) (fun hc24 => ?_)
       · rw [if_pos hc24] at h
         refine rg tok [2] fun K hK => ?_
         simp only [go_sem, rL, rE, reduceCtorEq]
         refine hK _ _ ?_
         refine zj ?_
         obtain rfl := Option.some.inj h
         exact retA
       · rw [if_F hc24] at h
         refine zi ?_
         refine hZ21 _ _ ?_
         refine rgE tok [0, 3, 4, 5, 6] fun K hK => ?_
         simp only [go_sem, rL, rE, reduceCtorEq, hw18]
         refine hK _ _ ?_
         exact ⟨_, _, _, nS q18.length, ⟨p18 ++ [y18], q18, x16 + 1, rfl, rfl, rfl, hE'18, hi'18, h⟩, .s⟩
mutual
def ref09_check : Nat → GTree → Option Bool
 | 0, _ => none
 | k + 1, a0 => ref09_check.body (ref09_check k) (ref09_entries k) a0
def ref09_entries : Nat → (List GEntry) → Option Bool
 | 0, _ => none
 | k + 1, a0 => ref09_entries.body (ref09_check k) (ref09_entries k) a0
end
theorem ref09_check.all (k : Nat) : (∀ (a0 : GTree) (r : Bool), ref09_check k a0 = some r → ACalls Tryd.prog 62 [.agg (cellsGTree a0)] [] (fun r' _ => r' = .bool r)) ∧ (∀ (a0 : List GEntry) (r : Bool), ref09_entries k a0 = some r → ACalls Tryd.prog 90 [.ds true (fM encGEntry a0) (lN a0) false] [] (fun r' _ => r' = .bool r)) := by
 induction k with
 | zero => exact ⟨(fun a0 r h => by simp only [ref09_check] at h; cases h), (fun a0 r h => by simp only [ref09_entries] at h; cases h)⟩
 | succ k ih => exact ⟨(fun a0 r h => ref09_check.step _ _ ih.1 ih.2 a0 r (by simpa only [ref09_check] using h)), (fun a0 r h => ref09_entries.step _ _ ih.1 ih.2 a0 r (by simpa only [ref09_entries] using h))⟩
theorem ref09_check.ev (k : Nat) (a0 : GTree) (r : Bool) (h : ref09_check k a0 = some r) (σ : Store) : ACalls Tryd.prog 62 [.agg (cellsGTree a0)] σ (fun r' σ' => r' = .bool r ∧ σ' = σ) :=
 ((ref09_check.all k).1 a0 r h).c σ
def ref09_Check (a0 : GTree) : Option Bool :=
 (ref09_Depth a0).bind fun r1 => (if r1 ≤ 10 then (ref09_check rounds a0).bind fun r2 => some r2 else some false).bind fun c2 => some c2
theorem ref09_Check.ok (a0 : GTree) (r : Bool) (h : ref09_Check a0 = some r) : ACalls Tryd.prog 36 [.agg (cellsGTree a0)] [] (fun r' _ => r' = .bool r) := by
 refine zm (rs := [.tmp 2]) tok Tryd.func36 rfl Tryd.ntmps36 rfl Tryd.call36 (by simp) ?_
 refine zo [(0, .agg (cellsGTree a0))] ⟨rfl, trivial⟩ ?_
 unfold ref09_Check at h
 refine rg tok [1] fun K hK => ?_
 simp only [go_sem, rL, rE, rA, reduceCtorEq, cellsGTree]
 refine hK _ _ ?_
 refine rc [2] fun K hK => ?_
 obtain ⟨r1, hr1, h⟩ := bind_some h
 refine za tok 1 ?_
 simp only [go_sem, rL, rD, rA]
 refine zh rfl rfl rfl (ref09_Depth.ev a0 r1 hr1 _) ?_
 rintro _ _ ⟨rfl, rfl⟩
 refine za tok 2 ?_
 simp only [go_sem, rL, rE]
 obtain ⟨c2, hc2, h⟩ := bind_some h
 refine zp 3 (fun L τ => L = ([(9, .bool c2)] : List (Nat × AV)) ∧ τ = ([.cells 0 [.int .i64 a0.fKind, .int .i64 a0.fN, .str a0.fS, .ds true (fM encGEntry a0.fEntries) (lN a0.fEntries) false, .ds true (fM encGRaw a0.fRest) (lN a0.fRest) false]] : Store)) ?_ ?_
 · refine za1 6 rfl (fun hg6 => ?_) (fun hg6 => ?_)
   · have t3 := eq_true hg6
     rw [if_pos hg6] at hc2
     obtain ⟨r4, hr4, hc2⟩ := bind_some hc2
     refine za tok 1 ?_
     simp only [go_sem, rL, rD, rE, rA]
     refine zh rfl rfl rfl (ref09_check.ev rounds a0 r4 hr4 _) ?_
     rintro _ _ ⟨rfl, rfl⟩
     refine za tok 1 ?_
     simp only [go_sem, rL, rE]
     obtain rfl := Option.some.inj hc2
     refine zb ⟨rfl, _, _, ⟨rfl, rfl⟩, .p t3⟩
   · have t5 := eq_false hg6
     rw [if_neg hg6] at hc2
     refine za tok 3 ?_
     simp only [go_sem, rL, rE]
     obtain rfl := Option.some.inj hc2
     refine zb ⟨rfl, _, _, ⟨rfl, rfl⟩, .p t5⟩
 rintro _ _ ⟨rfl, rfl⟩
 refine za tok 1 ?_
 simp only [go_sem, rL]
 refine zb ?_
 simp only [zd, upd, rE, reduceIte, zl, zn]
 refine hK _ _ ?_
 refine zj ?_
 obtain rfl := Option.some.inj h
 exact retA
theorem ref09_Check.ev (a0 : GTree) (r : Bool) (h : ref09_Check a0 = some r) (σ : Store) : ACalls Tryd.prog 36 [.agg (cellsGTree a0)] σ (fun r' σ' => r' = .bool r ∧ σ' = σ) :=
 (ref09_Check.ok a0 r h).c σ
def ref04_Sorted.j23 (x4 : Int) (rec8 : Int → List GRaw → Option (List GRaw)) (l16 : List GRaw) (x17 : Int) (rec20 : List GRaw → Int → Option (List GRaw)) (x22 : Bool) : Option (List GRaw) :=
 (if x22 = true then (idxL l16 x17).bind fun y25 => (idxL l16 (IntKind.i64.wrap (x17 - 1))).bind fun y28 => (idxL (setI l16 (IntKind.i64.wrap (x17 - 1)) y25) x17).bind fun y34 => (rec20 (setI (setI l16 (IntKind.i64.wrap (x17 - 1)) y25) x17 y28) (IntKind.i64.wrap (x17 - 1))) else (rec8 (x4 + 1) l16))
def ref04_Sorted.l20 (x4 : Int) (rec8 : Int → List GRaw → Option (List GRaw)) : Nat → List GRaw → Int → Option (List GRaw)
 | 0, _, _ => none
 | k20 + 1, l16, x17 => (if 0 < x17 then (idxL l16 (IntKind.i64.wrap (x17 - 1))).bind fun y39 => (idxL l16 x17).bind fun y42 => (ref04_Sorted.j23 x4 rec8 l16 x17 (ref04_Sorted.l20 x4 rec8 k20) (decide (y42.fTag < y39.fTag))) else (ref04_Sorted.j23 x4 rec8 l16 x17 (ref04_Sorted.l20 x4 rec8 k20) false))
def ref04_Sorted.l8 : List GRaw → Int → List GRaw → Option (List GRaw)
 | [], x4, l2 => some l2
 | y8 :: q8, x4, l2 => (room (lN l2 + 1) 40).bind fun _u14 => (ref04_Sorted.l20 x4 (ref04_Sorted.l8 q8) rounds (l2 ++ [y8]) (lN l2 : Int))
def ref04_Sorted (a0 : List GRaw) : Option (List GRaw) :=
 (ref04_Sorted.l8 a0 0 ([] : List GRaw))
theorem ref04_Sorted.own (a0 : List GRaw) (r : List GRaw) (h : ref04_Sorted a0 = some r) : ACalls Tryd.prog 92 [.ds true (fM encGRaw a0) (lN a0) false] [] (fun r' σ' => r' = .os true 4 0 0 0 (lN r) false ∧ σ' = [.cells 0 (fM encGRaw r)]) := by
 refine ACalls.own0 (by simp only [push_cast]) ?_
 refine zp2 (rs := [.tmp 2]) tok Tryd.func92 rfl Tryd.ntmps92 rfl Tryd.call92 (by simp) ?_
 refine zo [(0, .ds true (fM encGRaw a0) (lN a0) false)] ⟨rfl, trivial⟩ ?_
 unfold ref04_Sorted at h
 refine rg tok [0] fun K hK => ?_
 simp only [go_sem, rL, reduceCtorEq]
 refine hK _ _ ?_
 refine rg tok [0, 3] fun K hK => ?_
 simp only [go_sem, rL, reduceCtorEq]
 refine hK _ _ ?_
 refine zw2 3 4 rfl ?_
 refine zH (L := [(0, .ds true (fM encGRaw a0) (lN a0) false), (3, .os true 4 0 0 0 (lN ([] : List GRaw)) false)]) (τ := [.cells 0 (fM encGRaw ([] : List GRaw))]) .s ?_
 refine ze fun Z1 hZ1 => ?_
 refine rg tok [0, 3, 4] fun K hK => ?_
 simp only [go_sem, rL, rE, reduceCtorEq]
 refine hK _ _ ?_
 refine zk ?_
 refine zO 0 fun hb8 => ?_
 replace hb8 : lN a0 ≤ 9223372036854775807 := hb8.1
 refine zw (fun m L τ => ∃ (p8 q8 : List GRaw) (x4 : Int) (l2 : List GRaw) (v3 : Nat), m = lN q8 ∧ L = ([(0, .ds true (fM encGRaw a0) (lN a0) false), (3, .os true 4 0 v3 0 (lN l2) false), (4, .int .i64 x4)] : List (Nat × AV)) ∧ τ = ([.cells v3 (fM encGRaw l2)] : Store) ∧ a0 = p8 ++ q8 ∧ x4 = (lN p8 : Int) ∧ ref04_Sorted.l8 q8 x4 l2 = some r) _ ⟨[], a0, 0, ([] : List GRaw), 0, rfl, rfl, rfl, rfl, rfl, h⟩ .s ?_
 rintro m L τ ⟨p8, q8, x4, l2, v3, rfl, rfl, rfl, hE8, hi8, h⟩
 rcases q8 with _ | ⟨y8, q8⟩
 · have hz8 := zN hE8 hi8
   simp only [ref04_Sorted.l8] at h
   refine ze fun Z9 hZ9 => ?_
   refine rg tok [0, 3, 4, 9] fun K hK => ?_
   simp only [go_sem, rL, rE, reduceCtorEq, hz8]
   refine hK _ _ ?_
   refine zq rfl ?_
   refine zz ?_
   refine hZ1 _ _ ?_
   refine rg tok [2] fun K hK => ?_
   simp only [go_sem, rL, rE, reduceCtorEq]
   refine hK _ _ ?_
   refine zj ?_
   obtain rfl := Option.some.inj h
   simp only [retQ, zS, zT, zi1, exists_eq_left', go_sem]
   refine ⟨0, v3, by simp, ?_, ?_⟩
   · first | rfl | (simp only [go_sem, rL, rD, rE, rA, rM, rS, reduceIte, reduceCtorEq, push_cast, if_true, dZ, nZ, mC, mN, mP, Bool.or_true, Bool.or_false, Bool.and_true, Bool.and_false, Bool.not_true, Bool.not_false, zy, encGRaw] <;> rfl)
   · first | rfl | (simp only [go_sem, push_cast, mN, zy] <;> rfl)
 · obtain ⟨hz8, hw8, hx8, hE'8, hi'8⟩ := zK hE8 hi8 hb8
   simp only [ref04_Sorted.l8] at h
   refine ze fun Z10 hZ10 => ?_
   refine rg tok [0, 3, 4, 9] fun K hK => ?_
   simp only [go_sem, rL, rE, reduceCtorEq, hz8]
   refine hK _ _ ?_
   refine zt rfl ?_
   refine zi ?_
   refine hZ10 _ _ ?_
   refine ze fun Z11 hZ11 => ?_
   refine zk ?_
   refine rg tok [0, 3, 4, 5] fun K hK => ?_
   simp only [go_sem, rL, rE, reduceCtorEq]
   refine hK _ _ ?_
   have f12 := E22.idxS hx8
   have f13 := E22.loadS rfl rfl hx8
   obtain ⟨_u14, hu14, h⟩ := bind_some h
   have gu14 := zQ hu14
   have f15 := (zr E22.len l2)
   refine rg tok [0, 3, 4, 5] fun K hK => ?_
   simp only [go_sem, rL, rD, rE, rA, rM, reduceCtorEq, zC, zG, List.range_succ, List.range_zero, true_and, Nat.reduceMod, zL, zD, zM, encGRaw, f12, f13, gu14, f15, zX, List.all_nil, List.all_cons, AV.one, Bool.and_self, nA, lC, lZ, nZ, cA]
   refine hK _ _ ?_
   refine zH (L := [(0, .ds true (fM encGRaw a0) (lN a0) false), (3, .os true 4 0 (v3 + 1) 0 (lN (l2 ++ [y8])) false), (4, .int .i64 x4), (5, .int .i64 (lN l2 : Int))]) (τ := [.cells (v3 + 1) (fM encGRaw (l2 ++ [y8])), .cells 0 [.int .i64 y8.fTag, .int .i64 y8.fWire, .int .i64 y8.fN, .str y8.fB]]) .s ?_
   refine zk ?_
   refine zw (fun m L τ => ∃ (k20 : Nat) (l16 : List GRaw) (x17 : Int), m = 0 + k20 ∧ L = ([(0, .ds true (fM encGRaw a0) (lN a0) false), (3, .os true 4 0 (v3 + 1) 0 (lN l16) false), (4, .int .i64 x4), (5, .int .i64 x17)] : List (Nat × AV)) ∧ τ = ([.cells (v3 + 1) (fM encGRaw l16)] : Store) ∧ ref04_Sorted.l20 x4 (ref04_Sorted.l8 q8) k20 l16 x17 = some r) _ ⟨rounds, l2 ++ [y8], (lN l2 : Int), rfl, rfl, rfl, h⟩ (.t [0] false) ?_
   rintro m L τ ⟨k20, l16, x17, rfl, rfl, rfl, h⟩
   rcases k20 with _ | k20
   · cases h
   · simp only [ref04_Sorted.l20] at h
     refine ze fun Z21 hZ21 => ?_
     refine zk1 (fun L τ => ∃ (x22 : Bool), L = ([(0, .ds true (fM encGRaw a0) (lN a0) false), (3, .os true 4 0 (v3 + 1) 0 (lN l16) false), (4, .int .i64 x4), (5, .int .i64 x17), (36, .bool x22)] : List (Nat × AV)) ∧ τ = ([.cells (v3 + 1) (fM encGRaw l16)] : Store) ∧ ref04_Sorted.j23 x4 (ref04_Sorted.l8 q8) l16 x17 (ref04_Sorted.l20 x4 (ref04_Sorted.l8 q8) k20) x22 = some r) ?_ ?_
     · refine rdE [0, 3, 4, 5, 36] fun K hK => ?_
       refine DW.start (T := tab) [.any, .any, .any, .any, .any, .any, .any, .any, .at [], .any, .any, .any, .any, .at [], .any, .any] [] ?_
       refine DW.runN tok 3 ?_
       simp only [go_sem, rL, rE, reduceCtorEq]
       refine DW.if 23 rfl (fun hg23 => ?_) (fun hg23 => ?_)
       · rw [if_pos hg23] at h
         have t38 := eq_true hg23
         obtain ⟨y39, hy39, h⟩ := bind_some h
         have f40 := E22.idxO hy39
         have f41 := E22.rdfO0 hy39
         obtain ⟨y42, hy42, h⟩ := bind_some h
         have f43 := E22.idxO hy42
         have f44 := E22.rdfO0 hy42
         refine DW.runN tok 8 ?_
         simp only [go_sem, rL, rE, reduceCtorEq, encGRaw, t38, f40, f41]
         refine DW.runN tok 5 ?_
         simp only [go_sem, rL, rE, reduceCtorEq, encGRaw, f43, f44]
         refine DW.fin tok (by decide +kernel) rfl ?_
         simp only [zd, upd, rE, reduceIte, zl, zn]
         refine hK _ _ ?_
         exact ⟨_, _, ⟨decide (y42.fTag < y39.fTag), rfl, rfl, h⟩, .s⟩
       · rw [if_neg hg23] at h
         have t45 := eq_false hg23
         refine DW.runN tok 8 ?_
         simp only [go_sem, rL, rE, reduceCtorEq, t45]
         refine DW.runN tok 5 ?_
         simp only [go_sem, rL, rE, reduceCtorEq]
         refine DW.fin tok (by decide +kernel) rfl ?_
         simp only [zd, upd, rE, reduceIte, zl, zn]
         refine hK _ _ ?_
         exact ⟨_, _, ⟨false, rfl, rfl, h⟩, .s⟩
     rintro _ _ ⟨x22, rfl, rfl, h⟩
     unfold ref04_Sorted.j23 at h
     refine zx (b := x22) rfl (fun hc24 => ?_) (fun hc24 => ?_)
     · rw [if_pos hc24] at h
       refine zi ?_
       refine hZ21 _ _ ?_
       refine zk ?_
       obtain ⟨y25, hy25, h⟩ := bind_some h
       have f26 := E22.idxO hy25
       have f27 := E22.rdO hy25
       obtain ⟨y28, hy28, h⟩ := bind_some h
       have f29 := E22.idxO hy28
       have f30 := E22.rdO hy28
       have f31 := E22.idxO hy28
       have f32 := E22.stOc hy28
       have f33 := E22.stOr hy28 (y := y25) (cs := [.int .i64 y25.fTag, .int .i64 y25.fWire, .int .i64 y25.fN, .str y25.fB]) rfl
       simp only [zP] at f33
       obtain ⟨y34, hy34, h⟩ := bind_some h
       have f35 := E22.idxO hy34
       have f36 := E22.stOc hy34
       have f37 := E22.stOr hy34 (y := y28) (cs := [.int .i64 y28.fTag, .int .i64 y28.fWire, .int .i64 y28.fN, .str y28.fB]) rfl
       simp only [zP] at f37
       refine rd [0, 3, 4, 5] fun K hK => ?_
       refine DW.start (T := tab) [.any, .any, .any, .any, .any, .any, .any, .any, .at [], .any, .any, .any, .any, .at [], .any, .eff, .any, .eff] [] ?_
       refine DW.runN tok 8 ?_
       simp only [go_sem, rL, rE, reduceCtorEq, f26]
       refine DW.runN tok 8 ?_
       simp only [go_sem, rL, rE, rA, reduceCtorEq, encGRaw, f27, f29, f30, f32, f33]
       refine DW.runN tok 2 ?_
       simp only [go_sem, rL, rE, rA, reduceCtorEq, f26, f36, f37]
       refine DW.fin tok (by decide +kernel) rfl ?_
       simp only [zd, upd, rE, reduceIte, zl, zn]
       refine hK _ _ ?_
       refine rgE tok [0, 3, 4, 5] fun K hK => ?_
       simp only [go_sem, rL, rE, reduceCtorEq]
       refine hK _ _ ?_
       exact ⟨_, _, _, nS (0 + k20), ⟨k20, setI (setI l16 (IntKind.i64.wrap (x17 - 1)) y25) x17 y28, IntKind.i64.wrap (x17 - 1), rfl, rfl, rfl, h⟩, .s⟩
     · rw [if_F hc24] at h
       refine zz ?_
       refine hZ11 _ _ ?_
       refine rgE tok [0, 3, 4] fun K hK => ?_
       simp only [go_sem, rL, rE, reduceCtorEq, hw8]
       refine hK _ _ ?_
       exact ⟨_, _, _, nS q8.length, ⟨p8 ++ [y8], q8, x4 + 1, l16, v3 + 1, rfl, rfl, rfl, hE'8, hi'8, h⟩, .s⟩
theorem ref04_Sorted.ok (a0 : List GRaw) (r : List GRaw) (h : ref04_Sorted a0 = some r) : ACalls Tryd.prog 92 [.ds true (fM encGRaw a0) (lN a0) false] [] (fun r' _ => r' = .ds true (fM encGRaw r) (lN r) false) :=
 (ref04_Sorted.own a0 r h).ownData (zr E22.len r) (by simp only [push_cast])
theorem ref04_Sorted.ev (a0 : List GRaw) (r : List GRaw) (h : ref04_Sorted a0 = some r) (σ : Store) : ACalls Tryd.prog 92 [.ds true (fM encGRaw a0) (lN a0) false] σ (fun r' σ' => r' = .ds true (fM encGRaw r) (lN r) false ∧ σ' = σ) :=
 (ref04_Sorted.ok a0 r h).c σ
def ref02_Put.l8 : Nat → List UInt8 → Int → Option (List UInt8)
 | 0, _, _ => none
 | k8 + 1, l2, x4 => (if 128 ≤ x4 then (room (lN l2 + 1) 1).bind fun _u13 => ((ref02_Put.l8 k8) (l2 ++ [UInt8.ofNat (Int.toNat (IntKind.u8.wrap ((IntKind.u8.wrap ((x4).tmod 128)) + 128)))]) (IntKind.u64.wrap ((x4).tdiv 128))) else (room (lN l2 + 1) 1).bind fun _u17 => some (l2 ++ [UInt8.ofNat (Int.toNat (IntKind.u8.wrap x4))]))
def ref02_Put (a0 : Int) : Option (List UInt8) :=
 (ref02_Put.l8 rounds ([] : List UInt8) a0)
theorem ref02_Put.own (a0 : Int) (r : List UInt8) (h : ref02_Put a0 = some r) : ACalls Tryd.prog 117 [.int .u64 a0] [] (fun r' σ' => r' = .os true 1 0 0 0 (lN r) false ∧ σ' = [.cells 0 (fM encB r)]) := by
 refine ACalls.own0 (by simp only [push_cast]) ?_
 refine zp2 (rs := [.tmp 2]) tok Tryd.func117 rfl Tryd.ntmps117 rfl Tryd.call117 (by simp) ?_
 refine zo [(0, .int .u64 a0)] ⟨rfl, trivial⟩ ?_
 unfold ref02_Put at h
 refine rg tok [0] fun K hK => ?_
 simp only [go_sem, rL, reduceCtorEq]
 refine hK _ _ ?_
 refine rg tok [0, 3] fun K hK => ?_
 simp only [go_sem, rL, reduceCtorEq]
 refine hK _ _ ?_
 refine zw2 3 1 rfl ?_
 refine zH (L := [(0, .int .u64 a0), (3, .os true 1 0 0 0 (lN ([] : List UInt8)) false)]) (τ := [.cells 0 (fM encB ([] : List UInt8))]) .s ?_
 refine ze fun Z1 hZ1 => ?_
 refine zk ?_
 refine zw (fun m L τ => ∃ (k8 : Nat) (l2 : List UInt8) (x4 : Int) (v3 : Nat), m = 0 + k8 ∧ L = ([(0, .int .u64 x4), (3, .os true 1 0 v3 0 (lN l2) false)] : List (Nat × AV)) ∧ τ = ([.cells v3 (fM encB l2)] : Store) ∧ ref02_Put.l8 k8 l2 x4 = some r) _ ⟨rounds, ([] : List UInt8), a0, 0, rfl, rfl, rfl, h⟩ .s ?_
 rintro m L τ ⟨k8, l2, x4, v3, rfl, rfl, rfl, h⟩
 rcases k8 with _ | k8
 · cases h
 · simp only [ref02_Put.l8] at h
   refine ze fun Z9 hZ9 => ?_
   refine rg tok [0, 3, 5] fun K hK => ?_
   simp only [go_sem, rL, rE, reduceCtorEq]
   refine hK _ _ ?_
   refine zA rfl (fun hc10 => ?_) (fun hc10 => ?_)
   · rw [if_pos hc10] at h
     have t11 := eq_true hc10
     refine zi ?_
     refine hZ9 _ _ ?_
     refine zk ?_
     have f12 := zb1 (T := tab) (src := 85) (dst := 5) rfl rfl rfl
     obtain ⟨_u13, hu13, h⟩ := bind_some h
     have gu13 := zQ hu13
     have f14 := (zr E35.len l2)
     refine rg tok [0, 3] fun K hK => ?_
     simp only [go_sem, rL, rD, rE, rM, reduceCtorEq, zC, zG, List.range_succ, List.range_zero, true_and, Nat.reduceMod, zL, zD, zM, t11, f12, gu13, f14, Int.reduceEq, zX, List.all_nil, List.all_cons, AV.one, Bool.and_self, nA, lC, lZ, nZ, cA]
     refine hK _ _ ?_
     refine zH (L := [(0, .int .u64 x4), (3, .os true 1 0 (v3 + 1) 0 (lN (l2 ++ [UInt8.ofNat (Int.toNat (IntKind.u8.wrap ((IntKind.u8.wrap ((x4).tmod 128)) + 128)))])) false)]) (τ := [.cells (v3 + 1) (fM encB (l2 ++ [UInt8.ofNat (Int.toNat (IntKind.u8.wrap ((IntKind.u8.wrap ((x4).tmod 128)) + 128)))])), .cells 0 [.int .u8 (IntKind.u8.wrap ((IntKind.u8.wrap ((x4).tmod 128)) + 128))]]) (.same (by first | exact ⟨rfl, rfl, trivial⟩ | rfl | (simp only [go_sem, reduceCtorEq, Fits, lP, lC, lZ, nZ, and_self] <;> rfl)) (by first | exact ⟨rfl, rfl, trivial⟩ | rfl | (simp only [go_sem, encB, fA, fC, fZ, aN, zr4] <;> rfl))) ?_
     refine rgE tok [0, 3] fun K hK => ?_
     simp only [go_sem, rL, rE, reduceCtorEq, Int.reduceEq]
     refine hK _ _ ?_
     exact ⟨_, _, _, nS (0 + k8), ⟨k8, l2 ++ [UInt8.ofNat (Int.toNat (IntKind.u8.wrap ((IntKind.u8.wrap ((x4).tmod 128)) + 128)))], IntKind.u64.wrap ((x4).tdiv 128), v3 + 1, rfl, rfl, rfl, h⟩, (.t [0] false)⟩
   · rw [if_neg hc10] at h
     have t15 := eq_false hc10
     refine zz ?_
     refine hZ1 _ _ ?_
     have f16 := zb1 (T := tab) (src := 85) (dst := 5) rfl rfl rfl
     obtain ⟨_u17, hu17, h⟩ := bind_some h
     have gu17 := zQ hu17
     have f18 := (zr E35.len l2)
     refine rg tok [2] fun K hK => ?_
     simp only [go_sem, rL, rD, rE, rM, reduceCtorEq, zC, zG, List.range_succ, List.range_zero, true_and, Nat.reduceMod, zL, zD, zM, t15, f16, gu17, f18, zX, List.all_nil, List.all_cons, AV.one, Bool.and_self, nA, lC, lZ, nZ, cA]
     refine hK _ _ ?_
     refine zH (L := [(2, .os true 1 0 (v3 + 1) 0 (lN (l2 ++ [UInt8.ofNat (Int.toNat (IntKind.u8.wrap x4))])) false)]) (τ := [.cells (v3 + 1) (fM encB (l2 ++ [UInt8.ofNat (Int.toNat (IntKind.u8.wrap x4))])), .cells 0 [.int .u8 (IntKind.u8.wrap x4)]]) (.same (by first | exact ⟨rfl, trivial⟩ | rfl | (simp only [go_sem, Fits, lP, lC, lZ, nZ, and_self] <;> rfl)) (by first | exact ⟨rfl, trivial⟩ | rfl | (simp only [go_sem, encB, fA, fC, fZ, aN, zr4] <;> rfl))) ?_
     refine zj ?_
     obtain rfl := Option.some.inj h
     simp only [retQ, zS, zT, zi1, exists_eq_left', go_sem, rA]
     refine ⟨0, v3 + 1, by simp, ?_, ?_⟩
     · first | rfl | (simp only [go_sem, rL, rD, rE, rA, rM, rS, reduceIte, reduceCtorEq, push_cast, if_true, dZ, nZ, mC, mN, mP, Bool.or_true, Bool.or_false, Bool.and_true, Bool.and_false, Bool.not_true, Bool.not_false, zy] <;> rfl)
     · first | rfl | (simp only [go_sem, push_cast, mN, zy] <;> rfl)
theorem ref02_Put.ok (a0 : Int) (r : List UInt8) (h : ref02_Put a0 = some r) : ACalls Tryd.prog 117 [.int .u64 a0] [] (fun r' _ => r' = .ds true (fM encB r) (lN r) false) :=
 (ref02_Put.own a0 r h).ownData (zr E35.len r) (by simp only [push_cast])
theorem ref02_Put.ev (a0 : Int) (r : List UInt8) (h : ref02_Put a0 = some r) (σ : Store) : ACalls Tryd.prog 117 [.int .u64 a0] σ (fun r' σ' => r' = .ds true (fM encB r) (lN r) false ∧ σ' = σ) :=
 (ref02_Put.ok a0 r h).c σ
def ref02_Zig (a0 : Int) : Int :=
 (if 0 ≤ a0 then IntKind.u64.wrap (2 * (IntKind.u64.wrap a0)) else IntKind.u64.wrap ((IntKind.u64.wrap (2 * (IntKind.u64.wrap (IntKind.i64.wrap (0 - (IntKind.i64.wrap (a0 + 1))))))) + 1))
theorem ref02_Zig.ok (a0 : Int) (r : Int) (h : ref02_Zig a0 = r) : ACalls Tryd.prog 118 [.int .i64 a0] [] (fun r' _ => r' = .int .u64 r) := by
 refine zm (rs := [.tmp 2]) tok Tryd.func118 rfl Tryd.ntmps118 rfl Tryd.call118 (by simp) ?_
 refine zo [(0, .int .i64 a0)] ⟨rfl, trivial⟩ ?_
 unfold ref02_Zig at h
 refine rg tok [0] fun K hK => ?_
 simp only [go_sem, rL, reduceCtorEq]
 refine hK _ _ ?_
 refine ze fun Z1 hZ1 => ?_
 refine rg tok [0, 4] fun K hK => ?_
 simp only [go_sem, rL, rE, reduceCtorEq]
 refine hK _ _ ?_
 refine zA rfl (fun hc2 => ?_) (fun hc2 => ?_)
 · rw [if_pos hc2] at h
   have t3 := eq_true hc2
   have f4 := zb1 (T := tab) (src := 3) (dst := 85) rfl rfl rfl
   refine rg tok [2] fun K hK => ?_
   simp only [go_sem, rL, rE, reduceCtorEq, t3, f4]
   refine hK _ _ ?_
   refine zj ?_
   obtain rfl := h
   exact retA
 · rw [if_neg hc2] at h
   have t5 := eq_false hc2
   refine zi ?_
   refine hZ1 _ _ ?_
   have f6 := zb1 (T := tab) (src := 3) (dst := 85) rfl rfl rfl
   refine rg tok [2] fun K hK => ?_
   simp only [go_sem, rL, rE, reduceCtorEq, t5, f6]
   refine hK _ _ ?_
   refine zj ?_
   obtain rfl := h
   exact retA
theorem ref02_Zig.ev (a0 : Int) (r : Int) (h : ref02_Zig a0 = r) (σ : Store) : ACalls Tryd.prog 118 [.int .i64 a0] σ (fun r' σ' => r' = .int .u64 r ∧ σ' = σ) :=
 (ref02_Zig.ok a0 r h).c σ
def ref04_Put (a0 : GRaw) : Option (List UInt8) :=
 (ref02_Put (IntKind.u64.wrap (IntKind.i64.wrap ((IntKind.i64.wrap (2 * a0.fTag)) + a0.fWire)))).bind fun r2 => (if a0.fWire = 0 then bnd (ref02_Zig a0.fN) fun r6 => (ref02_Put r6).bind fun r7 => (room (lN r2 + lN r7) 1).bind fun _u9 => some (r2 ++ r7) else (ref02_Put (IntKind.u64.wrap (lN a0.fB : Int))).bind fun r13 => (room (lN r2 + lN r13) 1).bind fun _u15 => (room (lN (r2 ++ r13) + lN a0.fB) 1).bind fun _u17 => some ((r2 ++ r13) ++ a0.fB))
theorem ref04_Put.own (a0 : GRaw) (r : List UInt8) (h : ref04_Put a0 = some r) : ACalls Tryd.prog 94 [.agg (encGRaw a0)] [] (fun r' σ' => r' = .os true 1 0 0 0 (lN r) false ∧ σ' = [.cells 0 (fM encB r)]) := by
 refine ACalls.own0 (by simp only [push_cast]) ?_
 refine zp2 (rs := [.tmp 2]) tok Tryd.func94 rfl Tryd.ntmps94 rfl Tryd.call94 (by simp) ?_
 refine zo [(0, .agg (encGRaw a0))] ⟨rfl, trivial⟩ ?_
 unfold ref04_Put at h
 refine rg tok [1] fun K hK => ?_
 simp only [go_sem, rL, rE, rA, reduceCtorEq, encGRaw]
 refine hK _ _ ?_
 refine rc [1, 3] fun K hK => ?_
 have f1 := zb1 (T := tab) (src := 3) (dst := 85) rfl rfl rfl
 obtain ⟨r2, hr2, h⟩ := bind_some h
 refine za tok 7 ?_
 simp only [go_sem, rL, rE, rA, f1]
 refine zh rfl rfl rfl (@id (ACalls Tryd.prog 117 [.int .u64 (IntKind.u64.wrap (IntKind.i64.wrap ((IntKind.i64.wrap (2 * a0.fTag)) + a0.fWire)))] [.cells 0 [.int .i64 a0.fTag, .int .i64 a0.fWire, .int .i64 a0.fN, .str a0.fB]] (fun r' σ' => r' = .os true 1 1 0 0 (lN r2) false ∧ σ' = [.cells 0 [.int .i64 a0.fTag, .int .i64 a0.fWire, .int .i64 a0.fN, .str a0.fB], .cells 0 (fM encB r2)])) ((ref02_Put.own (IntKind.u64.wrap (IntKind.i64.wrap ((IntKind.i64.wrap (2 * a0.fTag)) + a0.fWire))) r2 hr2).ownAt0 (by simp only [push_cast]) (by simp only [push_cast]) _)) ?_
 rintro _ _ ⟨rfl, rfl⟩
 refine za tok 1 ?_
 simp only [go_sem, rL, rE]
 refine zb ?_
 simp only [zd, upd, rE, reduceIte, zl, zn]
 refine hK _ _ ?_
 refine ze fun Z3 hZ3 => ?_
 refine rg tok [1, 3, 14] fun K hK => ?_
 simp only [go_sem, rL, rE, rA]
 refine hK _ _ ?_
 refine zA rfl (fun hc4 => ?_) (fun hc4 => ?_)
 · rw [if_pos hc4] at h
   have t5 := eq_true hc4
   refine rc [2] fun K hK => ?_
   obtain ⟨r6, hr6, h⟩ := zJ h
   refine za tok 3 ?_
   simp only [go_sem, rL, rE, rA, t5]
   refine zh rfl rfl rfl (ref02_Zig.ev a0.fN r6 hr6 _) ?_
   rintro _ _ ⟨rfl, rfl⟩
   obtain ⟨r7, hr7, h⟩ := bind_some h
   refine zh rfl rfl rfl (ref02_Put.ev r6 r7 hr7 _) ?_
   rintro _ _ ⟨rfl, rfl⟩
   have f8 := fun nl tt σ => zo1 E35.len r7 nl tt σ
   obtain ⟨_u9, hu9, h⟩ := bind_some h
   have gu9 := zQ hu9
   have f10 := (zr E35.len r2)
   refine za tok 2 ?_
   simp only [go_sem, rL, rE, zL, zD, zM, true_and, f8, gu9, f10, zl2, nZ]
   refine zb ?_
   simp only [zd, upd, rE, reduceIte, zl, zn]
   refine hK _ _ ?_
   refine zH (L := [(2, .os true 1 1 (0 + 1) 0 (lN (r2 ++ r7)) false)]) (τ := [.cells 0 [.int .i64 a0.fTag, .int .i64 a0.fWire, .int .i64 a0.fN, .str a0.fB], .cells (0 + 1) (fM encB (r2 ++ r7))]) .s ?_
   refine zj ?_
   obtain rfl := Option.some.inj h
   simp only [retQ, zS, zT, zi1, exists_eq_left', go_sem, rA]
   refine ⟨1, 0 + 1, by simp, ?_, ?_⟩
   · first | rfl | (simp only [go_sem, rL, rD, rE, rA, rM, rS, reduceIte, reduceCtorEq, push_cast, if_true, dZ, nZ, mC, mN, mP, Bool.or_true, Bool.or_false, Bool.and_true, Bool.and_false, Bool.not_true, Bool.not_false, zy] <;> rfl)
   · first | rfl | (simp only [go_sem, push_cast, nZ, mN, zy] <;> rfl)
 · rw [if_neg hc4] at h
   have t11 := eq_false hc4
   refine zi ?_
   refine hZ3 _ _ ?_
   refine rc [1, 3] fun K hK => ?_
   have f12 := zb1 (T := tab) (src := 3) (dst := 85) rfl rfl rfl
   obtain ⟨r13, hr13, h⟩ := bind_some h
   refine za tok 5 ?_
   simp only [go_sem, rL, rE, rA, t11, f12]
   refine zh rfl rfl rfl (ref02_Put.ev (IntKind.u64.wrap (lN a0.fB : Int)) r13 hr13 _) ?_
   rintro _ _ ⟨rfl, rfl⟩
   have f14 := fun nl tt σ => zo1 E35.len r13 nl tt σ
   obtain ⟨_u15, hu15, h⟩ := bind_some h
   have gu15 := zQ hu15
   have f16 := (zr E35.len r2)
   refine za tok 2 ?_
   simp only [go_sem, rL, rE, zL, zD, zM, true_and, f14, gu15, f16, zl2, nZ]
   refine zb ?_
   simp only [zd, upd, rE, reduceIte, zl, zn]
   refine hK _ _ ?_
   refine zH (L := [(1, .op 0 0 0), (3, .os true 1 1 (0 + 1) 0 (lN (r2 ++ r13)) false)]) (τ := [.cells 0 [.int .i64 a0.fTag, .int .i64 a0.fWire, .int .i64 a0.fN, .str a0.fB], .cells (0 + 1) (fM encB (r2 ++ r13))]) .s ?_
   obtain ⟨_u17, hu17, h⟩ := bind_some h
   have gu17 := zQ hu17
   first | simp only [lP] at gu17 | skip
   have f18 := (zr E35.len (r2 ++ r13))
   simp only [fA, lP] at f18
   refine rg tok [2] fun K hK => ?_
   simp only [go_sem, rL, rE, rA, zL, zD, zM, true_and, gu17, f18, srcCells_s, zd3, zl2, fA, lP, lC, lZ, nZ, aA]
   refine hK _ _ ?_
   refine zH (L := [(2, .os true 1 1 (0 + 1 + 1) 0 (lN ((r2 ++ r13) ++ a0.fB)) false)]) (τ := [.cells 0 [.int .i64 a0.fTag, .int .i64 a0.fWire, .int .i64 a0.fN, .str a0.fB], .cells (0 + 1 + 1) (fM encB ((r2 ++ r13) ++ a0.fB))]) .s ?_
   refine zj ?_
   obtain rfl := Option.some.inj h
   simp only [retQ, zS, zT, zi1, exists_eq_left', go_sem, rA]
   refine ⟨1, 0 + 1 + 1, by simp, ?_, ?_⟩
   · first | rfl | (simp only [go_sem, rL, rD, rE, rA, rM, rS, reduceIte, reduceCtorEq, push_cast, if_true, dZ, nZ, mC, mN, mP, Bool.or_true, Bool.or_false, Bool.and_true, Bool.and_false, Bool.not_true, Bool.not_false, zy] <;> rfl)
   · first | rfl | (simp only [go_sem, rA, push_cast, nZ, mN, zy] <;> rfl)
theorem ref04_Put.ok (a0 : GRaw) (r : List UInt8) (h : ref04_Put a0 = some r) : ACalls Tryd.prog 94 [.agg (encGRaw a0)] [] (fun r' _ => r' = .ds true (fM encB r) (lN r) false) :=
 (ref04_Put.own a0 r h).ownData (zr E35.len r) (by simp only [push_cast])
theorem ref04_Put.ev (a0 : GRaw) (r : List UInt8) (h : ref04_Put a0 = some r) (σ : Store) : ACalls Tryd.prog 94 [.agg (encGRaw a0)] σ (fun r' σ' => r' = .ds true (fM encB r) (lN r) false ∧ σ' = σ) :=
 (ref04_Put.ok a0 r h).c σ
def ref04_PutAll.l13 : List GRaw → Int → List UInt8 → Option (List UInt8 × Int)
 | [], x9, l7 => some (l7, 0)
 | y13 :: q13, x9, l7 => (ref04_Put y13).bind fun r19 => (room (lN l7 + lN r19) 1).bind fun _u21 => (if 4096 < (lN (l7 ++ r19) : Int) then some (([] : List UInt8), 4) else ((ref04_PutAll.l13 q13) (x9 + 1) (l7 ++ r19)))
def ref04_PutAll.l4 (a0 : List GRaw) : List GRaw → Int → Option (List UInt8 × Int)
 | [], x2 => (ref04_PutAll.l13 a0 0 ([] : List UInt8))
 | y4 :: q4, x2 => bnd (ref04_Check y4) fun r30 => (if (!r30) = true then some (([] : List UInt8), 1) else ((ref04_PutAll.l4 a0 q4) (x2 + 1)))
def ref04_PutAll (a0 : List GRaw) : Option (List UInt8 × Int) :=
 (ref04_PutAll.l4 a0 a0 0)
theorem ref04_PutAll.ok (a0 : List GRaw) (r : List UInt8 × Int) (h : ref04_PutAll a0 = some r) : ACalls Tryd.prog 64 [.ds true (fM encGRaw a0) (lN a0) false] [] (fun r' _ => r' = .tup [.ds true (fM encB r.1) (lN r.1) false, .int .i64 r.2]) := by
 refine zm (rs := [.tmp 2, .tmp 3]) tok Tryd.func64 rfl Tryd.ntmps64 rfl Tryd.call64 (by simp) ?_
 refine zo [(0, .ds true (fM encGRaw a0) (lN a0) false)] ⟨rfl, trivial⟩ ?_
 unfold ref04_PutAll at h
 refine rg tok [0] fun K hK => ?_
 simp only [go_sem, rL, reduceCtorEq]
 refine hK _ _ ?_
 refine rg tok [0, 4] fun K hK => ?_
 simp only [go_sem, rL, reduceCtorEq]
 refine hK _ _ ?_
 refine zw2 4 1 rfl ?_
 refine zH (L := [(0, .ds true (fM encGRaw a0) (lN a0) false), (4, .os true 1 0 0 0 (lN ([] : List UInt8)) false)]) (τ := [.cells 0 (fM encB ([] : List UInt8))]) .s ?_
 refine ze fun Z1 hZ1 => ?_
 refine rg tok [0, 4, 5] fun K hK => ?_
 simp only [go_sem, rL, rE, reduceCtorEq]
 refine hK _ _ ?_
 refine zk ?_
 refine zO 0 fun hb4 => ?_
 replace hb4 : lN a0 ≤ 9223372036854775807 := hb4.1
 refine zw (fun m L τ => ∃ (p4 q4 : List GRaw) (x2 : Int), m = lN q4 ∧ L = ([(0, .ds true (fM encGRaw a0) (lN a0) false), (4, .os true 1 0 0 0 (lN ([] : List UInt8)) false), (5, .int .i64 x2)] : List (Nat × AV)) ∧ τ = ([.cells 0 (fM encB ([] : List UInt8))] : Store) ∧ a0 = p4 ++ q4 ∧ x2 = (lN p4 : Int) ∧ ref04_PutAll.l4 a0 q4 x2 = some r) _ ⟨[], a0, 0, rfl, rfl, rfl, rfl, rfl, h⟩ .s ?_
 rintro m L τ ⟨p4, q4, x2, rfl, rfl, rfl, hE4, hi4, h⟩
 rcases q4 with _ | ⟨y4, q4⟩
 · have hz4 := zN hE4 hi4
   simp only [ref04_PutAll.l4] at h
   refine ze fun Z5 hZ5 => ?_
   refine rg tok [0, 4, 5, 10] fun K hK => ?_
   simp only [go_sem, rL, rE, reduceCtorEq, hz4]
   refine hK _ _ ?_
   refine zq rfl ?_
   refine zz ?_
   refine hZ1 _ _ ?_
   refine ze fun Z6 hZ6 => ?_
   refine rg tok [0, 4, 6] fun K hK => ?_
   simp only [go_sem, rL, rE, reduceCtorEq]
   refine hK _ _ ?_
   refine zk ?_
   refine zO 0 fun hb13 => ?_
   replace hb13 : lN a0 ≤ 9223372036854775807 := hb13.1
   refine zw (fun m L τ => ∃ (p13 q13 : List GRaw) (x9 : Int) (l7 : List UInt8) (v8 : Nat), m = lN q13 ∧ L = ([(0, .ds true (fM encGRaw a0) (lN a0) false), (4, .os true 1 0 v8 0 (lN l7) false), (6, .int .i64 x9)] : List (Nat × AV)) ∧ τ = ([.cells v8 (fM encB l7)] : Store) ∧ a0 = p13 ++ q13 ∧ x9 = (lN p13 : Int) ∧ ref04_PutAll.l13 q13 x9 l7 = some r) _ ⟨[], a0, 0, ([] : List UInt8), 0, rfl, rfl, rfl, rfl, rfl, h⟩ .s ?_
   rintro m L τ ⟨p13, q13, x9, l7, v8, rfl, rfl, rfl, hE13, hi13, h⟩
   rcases q13 with _ | ⟨y13, q13⟩
   · have hz13 := zN hE13 hi13
     simp only [ref04_PutAll.l13] at h
     refine ze fun Z14 hZ14 => ?_
     refine rg tok [0, 4, 6, 22] fun K hK => ?_
     simp only [go_sem, rL, rE, reduceCtorEq, hz13]
     refine hK _ _ ?_
     refine zq rfl ?_
     refine zz ?_
     refine hZ6 _ _ ?_
     refine rg tok [2, 3] fun K hK => ?_
     simp only [go_sem, rL, rE, reduceCtorEq]
     refine hK _ _ ?_
     refine zj ?_
     obtain rfl := Option.some.inj h
     exact retA
   · obtain ⟨hz13, hw13, hx13, hE'13, hi'13⟩ := zK hE13 hi13 hb13
     simp only [ref04_PutAll.l13] at h
     refine ze fun Z15 hZ15 => ?_
     refine rg tok [0, 4, 6, 22] fun K hK => ?_
     simp only [go_sem, rL, rE, reduceCtorEq, hz13]
     refine hK _ _ ?_
     refine zt rfl ?_
     refine zi ?_
     refine hZ15 _ _ ?_
     refine ze fun Z16 hZ16 => ?_
     refine zk ?_
     refine rc [0, 4, 6] fun K hK => ?_
     have f17 := E22.idxS hx13
     have f18 := E22.loadS rfl rfl hx13
     obtain ⟨r19, hr19, h⟩ := bind_some h
     refine za tok 5 ?_
     simp only [go_sem, rL, rE, reduceCtorEq, encGRaw, f17, f18]
     refine zh rfl rfl rfl (ref04_Put.ev y13 r19 hr19 _) ?_
     rintro _ _ ⟨rfl, rfl⟩
     have f20 := fun nl tt σ => zo1 E35.len r19 nl tt σ
     obtain ⟨_u21, hu21, h⟩ := bind_some h
     have gu21 := zQ hu21
     have f22 := (zr E35.len l7)
     refine za tok 2 ?_
     simp only [go_sem, rL, rE, reduceCtorEq, zL, zD, zM, true_and, f20, gu21, f22, zl2]
     refine zb ?_
     simp only [zd, upd, rE, reduceIte, zl, zn]
     refine hK _ _ ?_
     refine zH (L := [(0, .ds true (fM encGRaw a0) (lN a0) false), (4, .os true 1 0 (v8 + 1) 0 (lN (l7 ++ r19)) false), (6, .int .i64 x9)]) (τ := [.cells (v8 + 1) (fM encB (l7 ++ r19))]) .s ?_
     refine rg tok [0, 4, 6, 34] fun K hK => ?_
     simp only [go_sem, rL, rE, reduceCtorEq]
     refine hK _ _ ?_
     refine zA rfl (fun hc23 => ?_) (fun hc23 => ?_)
     · rw [if_pos hc23] at h
       have t24 := eq_true hc23
       refine rg tok [2, 3] fun K hK => ?_
       simp only [go_sem, rL, rE, reduceCtorEq, t24]
       refine hK _ _ ?_
       refine zj ?_
       obtain rfl := Option.some.inj h
       exact retA
     · rw [if_neg hc23] at h
       have t25 := eq_false hc23
       refine zi ?_
       refine hZ16 _ _ ?_
       refine rgE tok [0, 4, 6] fun K hK => ?_
       simp only [go_sem, rL, rE, reduceCtorEq, hw13, t25]
       refine hK _ _ ?_
       exact ⟨_, _, _, nS q13.length, ⟨p13 ++ [y13], q13, x9 + 1, l7 ++ r19, v8 + 1, rfl, rfl, rfl, hE'13, hi'13, h⟩, .s⟩
 · obtain ⟨hz4, hw4, hx4, hE'4, hi'4⟩ := zK hE4 hi4 hb4
   simp only [ref04_PutAll.l4] at h
   refine ze fun Z26 hZ26 => ?_
   refine rg tok [0, 4, 5, 10] fun K hK => ?_
   simp only [go_sem, rL, rE, reduceCtorEq, hz4]
   refine hK _ _ ?_
   refine zt rfl ?_
   refine zi ?_
   refine hZ26 _ _ ?_
   refine ze fun Z27 hZ27 => ?_
   refine zk ?_
   refine rc [0, 4, 5, 18] fun K hK => ?_
   have f28 := E22.idxS hx4
   have f29 := E22.loadS rfl rfl hx4
   obtain ⟨r30, hr30, h⟩ := zJ h
   refine za tok 4 ?_
   simp only [go_sem, rL, rE, reduceCtorEq, encGRaw, f28, f29]
   refine zh rfl rfl rfl (ref04_Check.ev y4 r30 hr30 _) ?_
   rintro _ _ ⟨rfl, rfl⟩
   refine za tok 1 ?_
   simp only [go_sem, rL, rE, reduceCtorEq]
   refine zb ?_
   simp only [zd, upd, rE, reduceIte, zl, zn]
   refine hK _ _ ?_
   refine zx (b := (!r30)) rfl (fun hc31 => ?_) (fun hc31 => ?_)
   · rw [if_pos hc31] at h
     refine rg tok [2, 3] fun K hK => ?_
     simp only [go_sem, rL, rE, reduceCtorEq]
     refine hK _ _ ?_
     refine zj ?_
     obtain rfl := Option.some.inj h
     exact retA
   · rw [if_F hc31] at h
     refine zi ?_
     refine hZ27 _ _ ?_
     refine rgE tok [0, 4, 5] fun K hK => ?_
     simp only [go_sem, rL, rE, reduceCtorEq, hw4]
     refine hK _ _ ?_
     exact ⟨_, _, _, nS q4.length, ⟨p4 ++ [y4], q4, x2 + 1, rfl, rfl, rfl, hE'4, hi'4, h⟩, .s⟩
theorem ref04_PutAll.ev (a0 : List GRaw) (r : List UInt8 × Int) (h : ref04_PutAll a0 = some r) (σ : Store) : ACalls Tryd.prog 64 [.ds true (fM encGRaw a0) (lN a0) false] σ (fun r' σ' => r' = .tup [.ds true (fM encB r.1) (lN r.1) false, .int .i64 r.2] ∧ σ' = σ) :=
 (ref04_PutAll.ok a0 r h).c σ
def ref11_encode.body (self_ref11_encode : GTree → Option (List UInt8 × Int)) (self_ref11_raws : GTree → Option (List GRaw × Int)) (a0 : GTree) : Option (List UInt8 × Int) :=
 (self_ref11_raws a0).bind fun r1 => (if r1.2 = 0 then (ref04_PutAll r1.1).bind fun r6 => some (r6.1, r6.2) else some (([] : List UInt8), r1.2))
theorem ref11_encode.step (self_ref11_encode : GTree → Option (List UInt8 × Int)) (self_ref11_raws : GTree → Option (List GRaw × Int)) (ih_ref11_encode : ∀ (a0 : GTree) (r : List UInt8 × Int), self_ref11_encode a0 = some r → ACalls Tryd.prog 37 [.agg (cellsGTree a0)] [] (fun r' _ => r' = .tup [.ds true (fM encB r.1) (lN r.1) false, .int .i64 r.2])) (ih_ref11_raws : ∀ (a0 : GTree) (r : List GRaw × Int), self_ref11_raws a0 = some r → ACalls Tryd.prog 63 [.agg (cellsGTree a0)] [] (fun r' _ => r' = .tup [.ds true (fM encGRaw r.1) (lN r.1) false, .int .i64 r.2])) (a0 : GTree) (r : List UInt8 × Int) (h : ref11_encode.body self_ref11_encode self_ref11_raws a0 = some r) : ACalls Tryd.prog 37 [.agg (cellsGTree a0)] [] (fun r' _ => r' = .tup [.ds true (fM encB r.1) (lN r.1) false, .int .i64 r.2]) := by
 have ev_ref11_encode := fun a0 r h σ => (ih_ref11_encode a0 r h).c σ
 have ev_ref11_raws := fun a0 r h σ => (ih_ref11_raws a0 r h).c σ
 refine zm (rs := [.tmp 2, .tmp 3]) tok Tryd.func37 rfl Tryd.ntmps37 rfl Tryd.call37 (by simp) ?_
 refine zo [(0, .agg (cellsGTree a0))] ⟨rfl, trivial⟩ ?_
 unfold ref11_encode.body at h
 refine rg tok [1] fun K hK => ?_
 simp only [go_sem, rL, rE, rA, reduceCtorEq, cellsGTree]
 refine hK _ _ ?_
 refine rc [4, 5] fun K hK => ?_
 obtain ⟨r1, hr1, h⟩ := bind_some h
 refine za tok 1 ?_
 simp only [go_sem, rL, rD, rA]
 refine zh rfl rfl rfl (ev_ref11_raws a0 r1 hr1 _) ?_
 rintro _ _ ⟨rfl, rfl⟩
 refine za tok 5 ?_
 simp only [go_sem, rL, rE, rA]
 refine zb ?_
 simp only [zd, upd, rE, reduceIte, zl, zn]
 refine hK _ _ ?_
 refine ze fun Z2 hZ2 => ?_
 refine rg tok [4, 5, 12] fun K hK => ?_
 simp only [go_sem, rL, rE]
 refine hK _ _ ?_
 refine zA rfl (fun hc3 => ?_) (fun hc3 => ?_)
 · rw [if_neg hc3] at h
   have t4 := eq_false hc3
   refine rg tok [2, 3] fun K hK => ?_
   simp only [go_sem, rL, rE, t4]
   refine hK _ _ ?_
   refine zj ?_
   obtain rfl := Option.some.inj h
   exact retA
 · rw [if_pos hc3] at h
   have t5 := eq_true hc3
   refine zi ?_
   refine hZ2 _ _ ?_
   refine rc [2, 3] fun K hK => ?_
   obtain ⟨r6, hr6, h⟩ := bind_some h
   refine za tok 1 ?_
   simp only [go_sem, rL, rE, t5]
   refine zh rfl rfl rfl (ref04_PutAll.ev r1.1 r6 hr6 _) ?_
   rintro _ _ ⟨rfl, rfl⟩
   refine za tok 4 ?_
   simp only [go_sem, rL, rE, rA]
   refine zb ?_
   simp only [zd, upd, rE, reduceIte, zl, zn]
   refine hK _ _ ?_
   refine zj ?_
   obtain rfl := Option.some.inj h
   exact retA
def ref11_raws.j37 (x18 : Int) (l16 : List GRaw) (rec22 : Int → List GRaw → Option (List GRaw × Int)) (m2_36 : GRaw) : Option (List GRaw × Int) :=
 (if 4096 < (lN m2_36.fB : Int) then some (([] : List GRaw), 4) else (room (lN l16 + 1) 40).bind fun _u42 => (rec22 (x18 + 1) (l16 ++ [m2_36])))
def ref11_raws.l22 (self_ref11_encode : GTree → Option (List UInt8 × Int)) (x4 : Int) (rec8 : Int → List GRaw → Option (List GRaw × Int)) (y8 : GEntry) : List GTree → Int → List GRaw → Option (List GRaw × Int)
 | [], x18, l16 => (rec8 (x4 + 1) l16)
 | y22 :: q22, x18, l16 => (if y22.fKind = 1 then (ref11_raws.j37 x18 l16 (ref11_raws.l22 self_ref11_encode x4 rec8 y8 q22) (⟨y8.fTag, 0, y22.fN, []⟩ : GRaw)) else (if y22.fKind = 2 then (ref11_raws.j37 x18 l16 (ref11_raws.l22 self_ref11_encode x4 rec8 y8 q22) (⟨y8.fTag, 1, 0, y22.fS⟩ : GRaw)) else (self_ref11_encode y22).bind fun r50 => (if r50.2 = 0 then (ref11_raws.j37 x18 l16 (ref11_raws.l22 self_ref11_encode x4 rec8 y8 q22) (⟨y8.fTag, 1, 0, r50.1⟩ : GRaw)) else some (([] : List GRaw), r50.2))))
def ref11_raws.l8 (self_ref11_encode : GTree → Option (List UInt8 × Int)) (a0 : GTree) : List GEntry → Int → List GRaw → Option (List GRaw × Int)
 | [], x4, l2 => (room (lN l2 + lN a0.fRest) 40).bind fun _u11 => (ref04_Sorted (l2 ++ a0.fRest)).bind fun r13 => some (r13, 0)
 | y8 :: q8, x4, l2 => (ref11_raws.l22 self_ref11_encode x4 (ref11_raws.l8 self_ref11_encode a0 q8) y8 y8.fTrees 0 l2)
def ref11_raws.body (self_ref11_encode : GTree → Option (List UInt8 × Int)) (self_ref11_raws : GTree → Option (List GRaw × Int)) (a0 : GTree) : Option (List GRaw × Int) :=
 (ref11_raws.l8 self_ref11_encode a0 a0.fEntries 0 ([] : List GRaw))
theorem ref11_raws.step (self_ref11_encode : GTree → Option (List UInt8 × Int)) (self_ref11_raws : GTree → Option (List GRaw × Int)) (ih_ref11_encode : ∀ (a0 : GTree) (r : List UInt8 × Int), self_ref11_encode a0 = some r → ACalls Tryd.prog 37 [.agg (cellsGTree a0)] [] (fun r' _ => r' = .tup [.ds true (fM encB r.1) (lN r.1) false, .int .i64 r.2])) (ih_ref11_raws : ∀ (a0 : GTree) (r : List GRaw × Int), self_ref11_raws a0 = some r → ACalls Tryd.prog 63 [.agg (cellsGTree a0)] [] (fun r' _ => r' = .tup [.ds true (fM encGRaw r.1) (lN r.1) false, .int .i64 r.2])) (a0 : GTree) (r : List GRaw × Int) (h : ref11_raws.body self_ref11_encode self_ref11_raws a0 = some r) : ACalls Tryd.prog 63 [.agg (cellsGTree a0)] [] (fun r' _ => r' = .tup [.ds true (fM encGRaw r.1) (lN r.1) false, .int .i64 r.2]) := by
 have ev_ref11_encode := fun a0 r h σ => (ih_ref11_encode a0 r h).c σ
 have ev_ref11_raws := fun a0 r h σ => (ih_ref11_raws a0 r h).c σ
 refine zm (rs := [.tmp 2, .tmp 3]) tok Tryd.func63 rfl Tryd.ntmps63 rfl Tryd.call63 (by simp) ?_
 refine zo [(0, .agg (cellsGTree a0))] ⟨rfl, trivial⟩ ?_
 unfold ref11_raws.body at h
 refine rg tok [1] fun K hK => ?_
 simp only [go_sem, rL, rE, rA, reduceCtorEq, cellsGTree]
 refine hK _ _ ?_
 refine rg tok [1, 4] fun K hK => ?_
 simp only [go_sem, rL, rE]
 refine hK _ _ ?_
 refine zw2 4 4 rfl ?_
 refine zH (L := [(1, .op 0 0 0), (4, .os true 4 1 0 0 (lN ([] : List GRaw)) false)]) (τ := [.cells 0 [.int .i64 a0.fKind, .int .i64 a0.fN, .str a0.fS, .ds true (fM encGEntry a0.fEntries) (lN a0.fEntries) false, .ds true (fM encGRaw a0.fRest) (lN a0.fRest) false], .cells 0 (fM encGRaw ([] : List GRaw))]) .s ?_
 refine ze fun Z1 hZ1 => ?_
 refine rg tok [1, 4, 5] fun K hK => ?_
 simp only [go_sem, rL, rE]
 refine hK _ _ ?_
 refine zk ?_
 refine zK1 0 rfl fun hb8 => ?_
 replace hb8 : lN a0.fEntries ≤ 9223372036854775807 := hb8.2.2.2.1.1
 refine zw (fun m L τ => ∃ (p8 q8 : List GEntry) (x4 : Int) (l2 : List GRaw) (v3 : Nat), m = lN q8 ∧ L = ([(1, .op 0 0 0), (4, .os true 4 1 v3 0 (lN l2) false), (5, .int .i64 x4)] : List (Nat × AV)) ∧ τ = ([.cells 0 [.int .i64 a0.fKind, .int .i64 a0.fN, .str a0.fS, .ds true (fM encGEntry a0.fEntries) (lN a0.fEntries) false, .ds true (fM encGRaw a0.fRest) (lN a0.fRest) false], .cells v3 (fM encGRaw l2)] : Store) ∧ a0.fEntries = p8 ++ q8 ∧ x4 = (lN p8 : Int) ∧ ref11_raws.l8 self_ref11_encode a0 q8 x4 l2 = some r) _ ⟨[], a0.fEntries, 0, ([] : List GRaw), 0, rfl, rfl, rfl, rfl, rfl, h⟩ .s ?_
 rintro m L τ ⟨p8, q8, x4, l2, v3, rfl, rfl, rfl, hE8, hi8, h⟩
 rcases q8 with _ | ⟨y8, q8⟩
 · have hz8 := zN hE8 hi8
   simp only [ref11_raws.l8] at h
   refine ze fun Z9 hZ9 => ?_
   refine rg tok [1, 4, 5, 15] fun K hK => ?_
   simp only [go_sem, rL, rE, rA, hz8]
   refine hK _ _ ?_
   refine zq rfl ?_
   refine zz ?_
   refine hZ1 _ _ ?_
   refine rc [2, 3] fun K hK => ?_
   have f10 := fun nl tt σ => zo1 E22.len a0.fRest nl tt σ
   obtain ⟨_u11, hu11, h⟩ := bind_some h
   have gu11 := zQ hu11
   have f12 := (zr E22.len l2)
   obtain ⟨r13, hr13, h⟩ := bind_some h
   refine za tok 4 ?_
   simp only [go_sem, rL, rE, rA, zL, zD, zM, true_and, f10, gu11, f12, zl2, lC, lZ, nZ]
   refine zb4 (L := [(80, .ds true (fM encGRaw (l2 ++ a0.fRest)) (lN (l2 ++ a0.fRest)) false)]) (τ := []) (.t [] false) ?_
   refine zh rfl rfl rfl (ref04_Sorted.ev (l2 ++ a0.fRest) r13 hr13 _) ?_
   rintro _ _ ⟨rfl, rfl⟩
   refine za tok 2 ?_
   simp only [go_sem, rL, rE]
   refine zb ?_
   simp only [zd, upd, rE, reduceIte, zl, zn]
   refine hK _ _ ?_
   refine zH (L := [(2, .ds true (fM encGRaw r13) (lN r13) false), (3, .int .i64 0)]) (τ := []) .s ?_
   refine zj ?_
   obtain rfl := Option.some.inj h
   exact retA
 · obtain ⟨hz8, hw8, hx8, hE'8, hi'8⟩ := zK hE8 hi8 hb8
   simp only [ref11_raws.l8] at h
   refine ze fun Z14 hZ14 => ?_
   refine rg tok [1, 4, 5, 15] fun K hK => ?_
   simp only [go_sem, rL, rE, rA, hz8]
   refine hK _ _ ?_
   refine zt rfl ?_
   refine zi ?_
   refine hZ14 _ _ ?_
   refine ze fun Z15 hZ15 => ?_
   refine zk ?_
   refine rg tok [1, 4, 5, 6] fun K hK => ?_
   simp only [go_sem, rL, rE]
   refine hK _ _ ?_
   refine zk ?_
   refine zK1 0 rfl fun hb22 => ?_
   replace hb22 := zF5 hb22.2.2.2.1.2 hx8
   rw [zB] at hb22
   replace hb22 : lN y8.fTrees ≤ 9223372036854775807 := hb22.2.1.1
   refine zw (fun m L τ => ∃ (p22 q22 : List GTree) (x18 : Int) (l16 : List GRaw) (v17 : Nat), m = lN q22 ∧ L = ([(1, .op 0 0 0), (4, .os true 4 1 v17 0 (lN l16) false), (5, .int .i64 x4), (6, .int .i64 x18)] : List (Nat × AV)) ∧ τ = ([.cells 0 [.int .i64 a0.fKind, .int .i64 a0.fN, .str a0.fS, .ds true (fM encGEntry a0.fEntries) (lN a0.fEntries) false, .ds true (fM encGRaw a0.fRest) (lN a0.fRest) false], .cells v17 (fM encGRaw l16)] : Store) ∧ y8.fTrees = p22 ++ q22 ∧ x18 = (lN p22 : Int) ∧ ref11_raws.l22 self_ref11_encode x4 (ref11_raws.l8 self_ref11_encode a0 q8) y8 q22 x18 l16 = some r) _ ⟨[], y8.fTrees, 0, l2, v3, rfl, rfl, rfl, rfl, rfl, h⟩ .s ?_
   rintro m L τ ⟨p22, q22, x18, l16, v17, rfl, rfl, rfl, hE22, hi22, h⟩
   rcases q22 with _ | ⟨y22, q22⟩
   · have hz22 := zN hE22 hi22
     simp only [ref11_raws.l22] at h
     refine ze fun Z23 hZ23 => ?_
     have f24 := E40.idxS hx8
     have f25 := E40.fldS (f := 59) rfl rfl hx8 (o := 1) (by decide)
     refine rg tok [1, 4, 5, 6, 26] fun K hK => ?_
     simp only [go_sem, rL, rE, rA, cellsGEntry, zB, hz22, f24, f25]
     refine hK _ _ ?_
     refine zq rfl ?_
     refine zz ?_
     refine hZ15 _ _ ?_
     refine rgE tok [1, 4, 5] fun K hK => ?_
     simp only [go_sem, rL, rE, hw8]
     refine hK _ _ ?_
     exact ⟨_, _, _, nS q8.length, ⟨p8 ++ [y8], q8, x4 + 1, l16, v17, rfl, rfl, rfl, hE'8, hi'8, h⟩, .s⟩
   · obtain ⟨hz22, hw22, hx22, hE'22, hi'22⟩ := zK hE22 hi22 hb22
     simp only [ref11_raws.l22] at h
     refine ze fun Z26 hZ26 => ?_
     have f27 := E40.idxS hx8
     have f28 := E40.fldS (f := 59) rfl rfl hx8 (o := 1) (by decide)
     refine rg tok [1, 4, 5, 6, 26] fun K hK => ?_
     simp only [go_sem, rL, rE, rA, cellsGEntry, zB, hz22, f27, f28]
     refine hK _ _ ?_
     refine zt rfl ?_
     refine zi ?_
     refine hZ26 _ _ ?_
     refine ze fun Z29 hZ29 => ?_
     refine zk ?_
     have f30 := E40.idxS hx8
     have f31 := E40.fldS (f := 59) rfl rfl hx8 (o := 1) (by decide)
     have f32 := E59.idxS hx22
     have f33 := E59.loadS rfl rfl hx22
     refine rg tok [1, 4, 5, 6, 7] fun K hK => ?_
     simp only [go_sem, rL, rD, rE, rA, cellsGEntry, cellsGTree, zB, zR, f30, f31, f32, f33]
     refine hK _ _ ?_
     have f34 := E40.idxS hx8
     have f35 := E40.fldS0 (f := 3) rfl rfl hx8
     refine rg tok [1, 4, 5, 6, 7, 8] fun K hK => ?_
     simp only [go_sem, rL, rD, rE, rA, cellsGEntry, zB, f34, f35]
     refine hK _ _ ?_
     refine zk1 (fun L τ => ∃ (m2_36 : GRaw), L = ([(1, .op 0 0 0), (4, .os true 4 1 v17 0 (lN l16) false), (5, .int .i64 x4), (6, .int .i64 x18), (8, .op 2 0 0)] : List (Nat × AV)) ∧ τ = ([.cells 0 [.int .i64 a0.fKind, .int .i64 a0.fN, .str a0.fS, .ds true (fM encGEntry a0.fEntries) (lN a0.fEntries) false, .ds true (fM encGRaw a0.fRest) (lN a0.fRest) false], .cells v17 (fM encGRaw l16), .cells 0 [.int .i64 m2_36.fTag, .int .i64 m2_36.fWire, .int .i64 m2_36.fN, .str m2_36.fB]] : Store) ∧ ref11_raws.j37 x18 l16 (ref11_raws.l22 self_ref11_encode x4 (ref11_raws.l8 self_ref11_encode a0 q8) y8 q22) m2_36 = some r) ?_ ?_
     · refine rg tok [1, 4, 5, 6, 7, 8, 46] fun K hK => ?_
       simp only [go_sem, rL, rE, rA]
       refine hK _ _ ?_
       refine zk ?_
       refine rg tok [1, 4, 5, 6, 7, 8, 46, 58] fun K hK => ?_
       simp only [go_sem, rL, rE]
       refine hK _ _ ?_
       refine zA rfl (fun hc44 => ?_) (fun hc44 => ?_)
       · rw [if_pos hc44] at h
         have t45 := eq_true hc44
         refine rg tok [1, 4, 5, 6, 7, 8] fun K hK => ?_
         simp only [go_sem, rL, rD, rE, rA, t45]
         refine hK _ _ ?_
         refine rgE tok [1, 4, 5, 6, 8] fun K hK => ?_
         simp only [go_sem, rL, rD, rE, rA]
         refine hK _ _ ?_
         exact ⟨_, _, ⟨(⟨y8.fTag, 0, y22.fN, []⟩ : GRaw), rfl, rfl, h⟩, (.t [0, 1, 3] false)⟩
       · rw [if_neg hc44] at h
         have t46 := eq_false hc44
         refine rg tok [1, 4, 5, 6, 7, 8, 64] fun K hK => ?_
         simp only [go_sem, rL, rE, t46]
         refine hK _ _ ?_
         refine zA rfl (fun hc47 => ?_) (fun hc47 => ?_)
         · rw [if_pos hc47] at h
           have t48 := eq_true hc47
           refine rgE tok [1, 4, 5, 6, 8] fun K hK => ?_
           simp only [go_sem, rL, rD, rE, rA, t48]
           refine hK _ _ ?_
           exact ⟨_, _, ⟨(⟨y8.fTag, 1, 0, y22.fS⟩ : GRaw), rfl, rfl, h⟩, (.t [0, 1, 3] false)⟩
         · rw [if_neg hc47] at h
           have t49 := eq_false hc47
           refine rc [1, 4, 5, 6, 8, 9, 10] fun K hK => ?_
           obtain ⟨r50, hr50, h⟩ := bind_some h
           refine za tok 1 ?_
           simp only [go_sem, rL, rD, rE, rA, t49]
           refine zh rfl rfl rfl (ev_ref11_encode y22 r50 hr50 _) ?_
           rintro _ _ ⟨rfl, rfl⟩
           refine za tok 5 ?_
           simp only [go_sem, rL, rE, rA]
           refine zb ?_
           simp only [zd, upd, rE, reduceIte, zl, zn]
           refine hK _ _ ?_
           refine ze fun Z51 hZ51 => ?_
           refine rg tok [1, 4, 5, 6, 8, 9, 10, 53] fun K hK => ?_
           simp only [go_sem, rL, rE]
           refine hK _ _ ?_
           refine zA rfl (fun hc52 => ?_) (fun hc52 => ?_)
           · rw [if_neg hc52] at h
             have t53 := eq_false hc52
             refine rg tok [2, 3] fun K hK => ?_
             simp only [go_sem, rL, rE, t53]
             refine hK _ _ ?_
             refine zj ?_
             obtain rfl := Option.some.inj h
             exact retA
           · rw [if_pos hc52] at h
             have t54 := eq_true hc52
             refine zi ?_
             refine hZ51 _ _ ?_
             have f55 := zm4 (T := tab) (src := 35) (dst := 9) rfl rfl rfl rfl rfl rfl r50.1
             refine rgE tok [1, 4, 5, 6, 8] fun K hK => ?_
             simp only [go_sem, rL, rD, rE, rA, t54, f55]
             refine hK _ _ ?_
             exact ⟨_, _, ⟨(⟨y8.fTag, 1, 0, r50.1⟩ : GRaw), rfl, rfl, h⟩, (.t [0, 1, 3] false)⟩
     rintro _ _ ⟨m2_36, rfl, rfl, h⟩
     unfold ref11_raws.j37 at h
     refine ze fun Z38 hZ38 => ?_
     refine rg tok [1, 4, 5, 6, 8, 72] fun K hK => ?_
     simp only [go_sem, rL, rE, rA]
     refine hK _ _ ?_
     refine zA rfl (fun hc39 => ?_) (fun hc39 => ?_)
     · rw [if_pos hc39] at h
       have t40 := eq_true hc39
       refine rg tok [2, 3] fun K hK => ?_
       simp only [go_sem, rL, rE, t40]
       refine hK _ _ ?_
       refine zj ?_
       obtain rfl := Option.some.inj h
       exact retA
     · rw [if_neg hc39] at h
       have t41 := eq_false hc39
       refine zi ?_
       refine hZ38 _ _ ?_
       obtain ⟨_u42, hu42, h⟩ := bind_some h
       have gu42 := zQ hu42
       have f43 := (zr E22.len l16)
       refine rgE tok [1, 4, 5, 6] fun K hK => ?_
       simp only [go_sem, rL, rD, rE, rA, rM, zC, zG, List.range_succ, List.range_zero, true_and, Nat.reduceMod, zL, zD, zM, t41, gu42, f43, zX, List.all_nil, List.all_cons, AV.one, Bool.and_self, nA, lC, lZ, nZ, cA]
       refine hK _ _ ?_
       refine hZ29 _ _ ?_
       refine rgE tok [1, 4, 5, 6] fun K hK => ?_
       simp only [go_sem, rL, rE, hw22]
       refine hK _ _ ?_
       exact ⟨_, _, _, nS q22.length, ⟨p22 ++ [y22], q22, x18 + 1, l16 ++ [m2_36], v17 + 1, rfl, rfl, rfl, hE'22, hi'22, h⟩, (.t [0, 1] false)⟩
mutual
def ref11_encode : Nat → GTree → Option (List UInt8 × Int)
 | 0, _ => none
 | k + 1, a0 => ref11_encode.body (ref11_encode k) (ref11_raws k) a0
def ref11_raws : Nat → GTree → Option (List GRaw × Int)
 | 0, _ => none
 | k + 1, a0 => ref11_raws.body (ref11_encode k) (ref11_raws k) a0
end
theorem ref11_encode.all (k : Nat) : (∀ (a0 : GTree) (r : List UInt8 × Int), ref11_encode k a0 = some r → ACalls Tryd.prog 37 [.agg (cellsGTree a0)] [] (fun r' _ => r' = .tup [.ds true (fM encB r.1) (lN r.1) false, .int .i64 r.2])) ∧ (∀ (a0 : GTree) (r : List GRaw × Int), ref11_raws k a0 = some r → ACalls Tryd.prog 63 [.agg (cellsGTree a0)] [] (fun r' _ => r' = .tup [.ds true (fM encGRaw r.1) (lN r.1) false, .int .i64 r.2])) := by
 induction k with
 | zero => exact ⟨(fun a0 r h => by simp only [ref11_encode] at h; cases h), (fun a0 r h => by simp only [ref11_raws] at h; cases h)⟩
 | succ k ih => exact ⟨(fun a0 r h => ref11_encode.step _ _ ih.1 ih.2 a0 r (by simpa only [ref11_encode] using h)), (fun a0 r h => ref11_raws.step _ _ ih.1 ih.2 a0 r (by simpa only [ref11_raws] using h))⟩
theorem ref11_encode.ev (k : Nat) (a0 : GTree) (r : List UInt8 × Int) (h : ref11_encode k a0 = some r) (σ : Store) : ACalls Tryd.prog 37 [.agg (cellsGTree a0)] σ (fun r' σ' => r' = .tup [.ds true (fM encB r.1) (lN r.1) false, .int .i64 r.2] ∧ σ' = σ) :=
 ((ref11_encode.all k).1 a0 r h).c σ
def ref11_Encode (a0 : GTree) : Option (List UInt8 × Int) :=
 (if a0.fKind = 3 then (ref09_Check a0).bind fun r2 => some (!r2) else some true).bind fun c2 => (if c2 = true then some (([] : List UInt8), 1) else (ref11_encode rounds a0).bind fun r7 => some (r7.1, r7.2))
theorem ref11_Encode.ok (a0 : GTree) (r : List UInt8 × Int) (h : ref11_Encode a0 = some r) : ACalls Tryd.prog 14 [.agg (cellsGTree a0)] [] (fun r' _ => r' = .tup [.ds true (fM encB r.1) (lN r.1) false, .int .i64 r.2]) := by
 refine zm (rs := [.tmp 2, .tmp 3]) tok Tryd.func14 rfl Tryd.ntmps14 rfl Tryd.call14 (by simp) ?_
 refine zo [(0, .agg (cellsGTree a0))] ⟨rfl, trivial⟩ ?_
 unfold ref11_Encode at h
 refine rg tok [1] fun K hK => ?_
 simp only [go_sem, rL, rE, rA, reduceCtorEq, cellsGTree]
 refine hK _ _ ?_
 refine ze fun Z1 hZ1 => ?_
 refine rc [1, 11] fun K hK => ?_
 refine za tok 4 ?_
 simp only [go_sem, rL, rE, rA]
 obtain ⟨c2, hc2, h⟩ := bind_some h
 refine zp 4 (fun L τ => L = ([(1, .op 0 0 0), (11, .bool c2)] : List (Nat × AV)) ∧ τ = ([.cells 0 [.int .i64 a0.fKind, .int .i64 a0.fN, .str a0.fS, .ds true (fM encGEntry a0.fEntries) (lN a0.fEntries) false, .ds true (fM encGRaw a0.fRest) (lN a0.fRest) false]] : Store)) ?_ ?_
 · refine za1 7 rfl (fun hg7 => ?_) (fun hg7 => ?_)
   · have t3 := eq_false hg7
     rw [if_neg hg7] at hc2
     refine za tok 4 ?_
     simp only [go_sem, rL, rE]
     obtain rfl := Option.some.inj hc2
     refine zb ⟨rfl, _, _, ⟨rfl, rfl⟩, .p t3⟩
   · have t4 := eq_true hg7
     rw [if_pos hg7] at hc2
     obtain ⟨r5, hr5, hc2⟩ := bind_some hc2
     refine za tok 1 ?_
     simp only [go_sem, rL, rD, rE, rA]
     refine zh rfl rfl rfl (ref09_Check.ev a0 r5 hr5 _) ?_
     rintro _ _ ⟨rfl, rfl⟩
     refine za tok 2 ?_
     simp only [go_sem, rL, rE]
     obtain rfl := Option.some.inj hc2
     refine zb ⟨rfl, _, _, ⟨rfl, rfl⟩, .p t4⟩
 rintro _ _ ⟨rfl, rfl⟩
 refine zb ?_
 simp only [zd, rE, reduceIte, zl, zn]
 refine hK _ _ ?_
 refine zx (b := c2) rfl (fun hc6 => ?_) (fun hc6 => ?_)
 · rw [if_pos hc6] at h
   refine rg tok [2, 3] fun K hK => ?_
   simp only [go_sem, rL, rE]
   refine hK _ _ ?_
   refine zj ?_
   obtain rfl := Option.some.inj h
   exact retA
 · rw [if_F hc6] at h
   refine zi ?_
   refine hZ1 _ _ ?_
   refine rc [2, 3] fun K hK => ?_
   obtain ⟨r7, hr7, h⟩ := bind_some h
   refine za tok 1 ?_
   simp only [go_sem, rL, rD, rE, rA]
   refine zh rfl rfl rfl (ref11_encode.ev rounds a0 r7 hr7 _) ?_
   rintro _ _ ⟨rfl, rfl⟩
   refine za tok 4 ?_
   simp only [go_sem, rL, rE, rA]
   refine zb ?_
   simp only [zd, upd, rE, reduceIte, zl, zn]
   refine hK _ _ ?_
   refine zj ?_
   obtain rfl := Option.some.inj h
   exact retA
theorem ref11_Encode.ev (a0 : GTree) (r : List UInt8 × Int) (h : ref11_Encode a0 = some r) (σ : Store) : ACalls Tryd.prog 14 [.agg (cellsGTree a0)] σ (fun r' σ' => r' = .tup [.ds true (fM encB r.1) (lN r.1) false, .int .i64 r.2] ∧ σ' = σ) :=
 (ref11_Encode.ok a0 r h).c σ
def check_Method.l4 (a1 : List UInt8) : List GMethod → Int → GMethod × Bool
 | [], x2 => ((⟨[], [], []⟩ : GMethod), false)
 | y4 :: q4, x2 => (if y4.fName = a1 then (y4, true) else ((check_Method.l4 a1 q4) (x2 + 1)))
def check_Method (a0 : GSchema) (a1 : List UInt8) : GMethod × Bool :=
 (check_Method.l4 a1 a0.fMethods 0)
theorem check_Method.ok (a0 : GSchema) (a1 : List UInt8) (r : GMethod × Bool) (h : check_Method a0 a1 = r) : ACalls Tryd.prog 45 [.agg (encGSchema a0), .str a1] [] (fun r' _ => r' = .tup [.agg (encGMethod r.1), .bool r.2]) := by
 refine zm (rs := [.cell 4 73, .tmp 5]) tok Tryd.func45 rfl Tryd.ntmps45 rfl Tryd.call45 (by simp) ?_
 refine zo [(0, .agg (encGSchema a0)), (1, .str a1)] ⟨rfl, rfl, trivial⟩ ?_
 unfold check_Method at h
 refine rg tok [1, 2, 4] fun K hK => ?_
 simp only [go_sem, rL, rE, rA, reduceCtorEq, encGSchema]
 refine hK _ _ ?_
 refine ze fun Z1 hZ1 => ?_
 refine rg tok [1, 4, 9, 10, 11] fun K hK => ?_
 simp only [go_sem, rL, rE, rA]
 refine hK _ _ ?_
 refine zk ?_
 refine zO 9 fun hb4 => ?_
 replace hb4 : lN a0.fMethods ≤ 9223372036854775807 := hb4.1
 refine zw (fun m L τ => ∃ (p4 q4 : List GMethod) (x2 : Int), m = lN q4 ∧ L = ([(1, .str a1), (4, .op 0 0 0), (9, .ds true (fM encGMethod a0.fMethods) (lN a0.fMethods) false), (10, .int .i64 (lN a0.fMethods : Int)), (11, .int .i64 x2)] : List (Nat × AV)) ∧ τ = ([.cells 0 [.str [], .str [], .str []]] : Store) ∧ a0.fMethods = p4 ++ q4 ∧ x2 = (lN p4 : Int) ∧ check_Method.l4 a1 q4 x2 = r) _ ⟨[], a0.fMethods, 0, rfl, rfl, rfl, rfl, rfl, h⟩ (.t [1] false) ?_
 rintro m L τ ⟨p4, q4, x2, rfl, rfl, rfl, hE4, hi4, h⟩
 rcases q4 with _ | ⟨y4, q4⟩
 · have hz4 := zN hE4 hi4
   simp only [check_Method.l4] at h
   refine rg tok [1, 4, 9, 10, 11, 12] fun K hK => ?_
   simp only [go_sem, rL, rE, hz4]
   refine hK _ _ ?_
   refine ze fun Z5 hZ5 => ?_
   refine zq rfl ?_
   refine zz ?_
   refine hZ1 _ _ ?_
   refine rg tok [4, 5] fun K hK => ?_
   simp only [go_sem, rL, rD, rE, rA]
   refine hK _ _ ?_
   refine zj ?_
   obtain rfl := h
   exact retA
 · obtain ⟨hz4, hw4, hx4, hE'4, hi'4⟩ := zK hE4 hi4 hb4
   simp only [check_Method.l4] at h
   refine rg tok [1, 4, 9, 10, 11, 12] fun K hK => ?_
   simp only [go_sem, rL, rE, hz4]
   refine hK _ _ ?_
   refine ze fun Z6 hZ6 => ?_
   refine zt rfl ?_
   refine zi ?_
   refine hZ6 _ _ ?_
   refine ze fun Z7 hZ7 => ?_
   refine zk ?_
   have f8 := E29.idxS hx4
   have f9 := E29.loadS rfl rfl hx4
   refine rg tok [1, 4, 7, 9, 10, 11] fun K hK => ?_
   simp only [go_sem, rL, rD, rE, rA, encGMethod, f8, f9]
   refine hK _ _ ?_
   refine rg tok [1, 4, 7, 9, 10, 11, 18] fun K hK => ?_
   simp only [go_sem, rL, rE, rA]
   refine hK _ _ ?_
   refine zA rfl (fun hc10 => ?_) (fun hc10 => ?_)
   · rw [if_pos hc10] at h
     have t11 := eq_true hc10
     refine rg tok [4, 5] fun K hK => ?_
     simp only [go_sem, rL, rD, rE, rA, t11]
     refine hK _ _ ?_
     refine zj ?_
     obtain rfl := h
     exact retA
   · rw [if_neg hc10] at h
     have t12 := eq_false hc10
     refine zi ?_
     refine hZ7 _ _ ?_
     refine rgE tok [1, 4, 9, 10, 11] fun K hK => ?_
     simp only [go_sem, rL, rE, hw4, t12]
     refine hK _ _ ?_
     exact ⟨_, _, _, nS q4.length, ⟨p4 ++ [y4], q4, x2 + 1, rfl, rfl, rfl, hE'4, hi'4, h⟩, (.t [0] false)⟩
theorem check_Method.ev (a0 : GSchema) (a1 : List UInt8) (r : GMethod × Bool) (h : check_Method a0 a1 = r) (σ : Store) : ACalls Tryd.prog 45 [.agg (encGSchema a0), .str a1] σ (fun r' σ' => r' = .tup [.agg (encGMethod r.1), .bool r.2] ∧ σ' = σ) :=
 (check_Method.ok a0 a1 r h).c σ
def proxy_Pass.j8 (a0 : GSchema) (a1 : GPacket) (x7 : List UInt8) : Option (GPacket × Bool) :=
 (grd (lN a1.fBody ≤ 9223372036854775807)).bind fun _u9 => (decode_Decode a0 x7 a1.fBody).bind fun r11 => (if r11.2 = 0 then (encode_Encode r11.1).bind fun r16 => (if r16.2 = 0 then some ((⟨a1.fKind, a1.fFrom, a1.fTo, a1.fID, a1.fVersion, a1.fMethod, a1.fErr, r16.1⟩ : GPacket), true) else some ((⟨0, 0, 0, 0, 0, [], 0, []⟩ : GPacket), false)) else some ((⟨0, 0, 0, 0, 0, [], 0, []⟩ : GPacket), false))
def proxy_Pass.j23 (a0 : GSchema) (a1 : GPacket) (r6 : GMethod × Bool) (x22 : Bool) : Option (GPacket × Bool) :=
 (if x22 = true then some (a1, true) else (if a1.fKind = 4 then (proxy_Pass.j8 a0 a1 r6.1.fOut) else (proxy_Pass.j8 a0 a1 r6.1.fIn)))
def proxy_Pass (a0 : GSchema) (a1 : GPacket) : Option (GPacket × Bool) :=
 (check_Check a0).bind fun r2 => (if r2 = 0 then bnd (check_Method a0 a1.fMethod) fun r6 => (if (!r6.2) = true then (proxy_Pass.j23 a0 a1 r6 (!r6.2)) else (proxy_Pass.j23 a0 a1 r6 ((!(decide (a1.fKind = 3))) && ((!(decide (a1.fKind = 4))) || (!(decide (a1.fErr = 0))))))) else some ((⟨0, 0, 0, 0, 0, [], 0, []⟩ : GPacket), false))
theorem proxy_Pass.ok (a0 : GSchema) (a1 : GPacket) (r : GPacket × Bool) (h : proxy_Pass a0 a1 = some r) : ACalls Tryd.prog 25 [.agg (encGSchema a0), .agg (encGPacket a1)] [] (fun r' _ => r' = .tup [.agg (encGPacket r.1), .bool r.2]) := by
 refine zm (rs := [.cell 4 64, .tmp 5]) tok Tryd.func25 rfl Tryd.ntmps25 rfl Tryd.call25 (by simp) ?_
 refine zo [(0, .agg (encGSchema a0)), (1, .agg (encGPacket a1))] ⟨rfl, rfl, trivial⟩ ?_
 unfold proxy_Pass at h
 refine rg tok [2, 3, 4] fun K hK => ?_
 simp only [go_sem, rL, rE, rA, reduceCtorEq, encGPacket, encGSchema]
 refine hK _ _ ?_
 refine ze fun Z1 hZ1 => ?_
 refine rc [2, 3, 4, 14] fun K hK => ?_
 obtain ⟨r2, hr2, h⟩ := bind_some h
 refine za tok 1 ?_
 simp only [go_sem, rL, rD, rE, rA]
 refine zh rfl rfl rfl (check_Check.ev a0 r2 hr2 _) ?_
 rintro _ _ ⟨rfl, rfl⟩
 refine za tok 1 ?_
 simp only [go_sem, rL, rE]
 refine zb ?_
 simp only [zd, upd, rE, reduceIte, zl, zn]
 refine hK _ _ ?_
 refine zA rfl (fun hc3 => ?_) (fun hc3 => ?_)
 · rw [if_neg hc3] at h
   have t4 := eq_false hc3
   refine rg tok [4, 5] fun K hK => ?_
   simp only [go_sem, rL, rD, rE, rA, t4]
   refine hK _ _ ?_
   refine zj ?_
   obtain rfl := Option.some.inj h
   exact retA
 · rw [if_pos hc3] at h
   have t5 := eq_true hc3
   refine zi ?_
   refine hZ1 _ _ ?_
   refine rc [2, 3, 4, 6, 7] fun K hK => ?_
   obtain ⟨r6, hr6, h⟩ := zJ h
   refine za tok 3 ?_
   simp only [go_sem, rL, rD, rE, rA, t5]
   refine zh rfl rfl rfl (check_Method.ev a0 a1.fMethod r6 hr6 _) ?_
   rintro _ _ ⟨rfl, rfl⟩
   refine za tok 6 ?_
   simp only [go_sem, rL, rD, rE, rA, encGMethod]
   refine zb ?_
   simp only [zd, upd, rE, reduceIte, zl, zn]
   refine hK _ _ ?_
   refine rg tok [2, 3, 4, 6, 7, 8] fun K hK => ?_
   simp only [go_sem, rL, rE, rA]
   refine hK _ _ ?_
   refine zk1 (fun L τ => ∃ (x7 : List UInt8), L = ([(2, .op 0 0 0), (3, .op 1 0 0), (4, .op 2 0 0), (8, .str x7)] : List (Nat × AV)) ∧ τ = ([.cells 0 [.str a0.fName, .ds true (fM encGMessage a0.fMessages) (lN a0.fMessages) false, .ds true (fM encGEnumeration a0.fEnums) (lN a0.fEnums) false, .ds true (fM encGMethod a0.fMethods) (lN a0.fMethods) false], .cells 0 [.int .i64 a1.fKind, .int .i64 a1.fFrom, .int .i64 a1.fTo, .int .i64 a1.fID, .int .i64 a1.fVersion, .str a1.fMethod, .int .i64 a1.fErr, .str a1.fBody], .cells 0 [.int .i64 0, .int .i64 0, .int .i64 0, .int .i64 0, .int .i64 0, .str [], .int .i64 0, .str []]] : Store) ∧ proxy_Pass.j8 a0 a1 x7 = some r) ?_ ?_
   · refine zk ?_
     refine zk1 (fun L τ => ∃ (x22 : Bool), L = ([(2, .op 0 0 0), (3, .op 1 0 0), (4, .op 2 0 0), (6, .op 3 0 0), (8, .str r6.1.fIn), (25, .bool x22)] : List (Nat × AV)) ∧ τ = ([.cells 0 [.str a0.fName, .ds true (fM encGMessage a0.fMessages) (lN a0.fMessages) false, .ds true (fM encGEnumeration a0.fEnums) (lN a0.fEnums) false, .ds true (fM encGMethod a0.fMethods) (lN a0.fMethods) false], .cells 0 [.int .i64 a1.fKind, .int .i64 a1.fFrom, .int .i64 a1.fTo, .int .i64 a1.fID, .int .i64 a1.fVersion, .str a1.fMethod, .int .i64 a1.fErr, .str a1.fBody], .cells 0 [.int .i64 0, .int .i64 0, .int .i64 0, .int .i64 0, .int .i64 0, .str [], .int .i64 0, .str []], .cells 0 [.str r6.1.fName, .str r6.1.fIn, .str r6.1.fOut]] : Store) ∧ proxy_Pass.j23 a0 a1 r6 x22 = some r) ?_ ?_
     · refine rg tok [2, 3, 4, 6, 8, 25] fun K hK => ?_
       simp only [go_sem, rL, rE]
       refine hK _ _ ?_
       refine zx (b := (!r6.2)) rfl (fun hc28 => ?_) (fun hc28 => ?_)
       · rw [if_pos hc28] at h
         refine zi ?_
         exact ⟨_, _, ⟨!r6.2, rfl, rfl, h⟩, .s⟩
       · rw [if_F hc28] at h
         refine rcE [2, 3, 4, 6, 8, 25] fun K hK => ?_
         refine za tok 4 ?_
         simp only [go_sem, rL, rE, rA]
         refine zp 9 (fun L τ => L = ([(2, .op 0 0 0), (3, .op 1 0 0), (4, .op 2 0 0), (6, .op 3 0 0), (8, .str r6.1.fIn), (25, .bool (!r6.2)), (40, .bool ((!(decide (a1.fKind = 3))) && ((!(decide (a1.fKind = 4))) || (!(decide (a1.fErr = 0))))))] : List (Nat × AV)) ∧ τ = ([.cells 0 [.str a0.fName, .ds true (fM encGMessage a0.fMessages) (lN a0.fMessages) false, .ds true (fM encGEnumeration a0.fEnums) (lN a0.fEnums) false, .ds true (fM encGMethod a0.fMethods) (lN a0.fMethods) false], .cells 0 [.int .i64 a1.fKind, .int .i64 a1.fFrom, .int .i64 a1.fTo, .int .i64 a1.fID, .int .i64 a1.fVersion, .str a1.fMethod, .int .i64 a1.fErr, .str a1.fBody], .cells 0 [.int .i64 0, .int .i64 0, .int .i64 0, .int .i64 0, .int .i64 0, .str [], .int .i64 0, .str []], .cells 0 [.str r6.1.fName, .str r6.1.fIn, .str r6.1.fOut]] : Store)) ?_ ?_
         · refine za1 31 rfl (fun hg31 => ?_) (fun hg31 => ?_)
           · have t29 := eq_false hg31
             refine za tok 4 ?_
             simp only [go_sem, rL, rE, rA]
             refine zp 4 (fun L τ => L = ([(2, .op 0 0 0), (3, .op 1 0 0), (4, .op 2 0 0), (6, .op 3 0 0), (8, .str r6.1.fIn), (25, .bool (!r6.2)), (31, .bool true), (39, .bool ((!(decide (a1.fKind = 4))) || (!(decide (a1.fErr = 0)))))] : List (Nat × AV)) ∧ τ = ([.cells 0 [.str a0.fName, .ds true (fM encGMessage a0.fMessages) (lN a0.fMessages) false, .ds true (fM encGEnumeration a0.fEnums) (lN a0.fEnums) false, .ds true (fM encGMethod a0.fMethods) (lN a0.fMethods) false], .cells 0 [.int .i64 a1.fKind, .int .i64 a1.fFrom, .int .i64 a1.fTo, .int .i64 a1.fID, .int .i64 a1.fVersion, .str a1.fMethod, .int .i64 a1.fErr, .str a1.fBody], .cells 0 [.int .i64 0, .int .i64 0, .int .i64 0, .int .i64 0, .int .i64 0, .str [], .int .i64 0, .str []], .cells 0 [.str r6.1.fName, .str r6.1.fIn, .str r6.1.fOut]] : Store)) ?_ ?_
             · refine za1 35 rfl (fun hg35 => ?_) (fun hg35 => ?_)
               · have t30 := eq_false hg35
                 refine za tok 4 ?_
                 simp only [go_sem, rL, rE]
                 refine zb ⟨rfl, _, _, ⟨rfl, rfl⟩, .p t30⟩
               · have t31 := eq_true hg35
                 refine za tok 4 ?_
                 simp only [go_sem, rL, rE, rA]
                 refine zb ⟨rfl, _, _, ⟨rfl, rfl⟩, .p t31⟩
             rintro _ _ ⟨rfl, rfl⟩
             refine za tok 1 ?_
             simp only [go_sem, rL, rE]
             refine zb ⟨rfl, _, _, ⟨rfl, rfl⟩, .p t29⟩
           · have t32 := eq_true hg31
             refine za tok 9 ?_
             simp only [go_sem, rL, rE]
             refine zb ⟨rfl, _, _, ⟨rfl, rfl⟩, .p t32⟩
         rintro _ _ ⟨rfl, rfl⟩
         refine za tok 1 ?_
         simp only [go_sem, rL, rE]
         refine zb ?_
         simp only [zd, upd, rE, reduceIte, zl, zn]
         refine hK _ _ ?_
         exact ⟨_, _, ⟨((!(decide (a1.fKind = 3))) && ((!(decide (a1.fKind = 4))) || (!(decide (a1.fErr = 0))))), rfl, rfl, h⟩, .s⟩
     rintro _ _ ⟨x22, rfl, rfl, h⟩
     unfold proxy_Pass.j23 at h
     refine zx (b := x22) rfl (fun hc24 => ?_) (fun hc24 => ?_)
     · rw [if_pos hc24] at h
       refine rg tok [4, 5] fun K hK => ?_
       simp only [go_sem, rL, rD, rE, rA]
       refine hK _ _ ?_
       refine zj ?_
       obtain rfl := Option.some.inj h
       exact retA
     · rw [if_F hc24] at h
       refine rg tok [2, 3, 4, 6, 8, 42] fun K hK => ?_
       simp only [go_sem, rL, rE, rA]
       refine hK _ _ ?_
       refine zA rfl (fun hc25 => ?_) (fun hc25 => ?_)
       · rw [if_pos hc25] at h
         have t26 := eq_true hc25
         refine rgE tok [2, 3, 4, 8] fun K hK => ?_
         simp only [go_sem, rL, rE, rA, t26]
         refine hK _ _ ?_
         exact ⟨_, _, ⟨r6.1.fOut, rfl, rfl, h⟩, (.t [0, 1, 2] false)⟩
       · rw [if_neg hc25] at h
         have t27 := eq_false hc25
         refine zi ?_
         exact ⟨_, _, ⟨r6.1.fIn, rfl, rfl, h⟩, (.t [0, 1, 2] false)⟩
   rintro _ _ ⟨x7, rfl, rfl, h⟩
   unfold proxy_Pass.j8 at h
   refine rc [3, 4, 9, 10] fun K hK => ?_
   obtain ⟨_u9, hu9, h⟩ := bind_some h
   have gu9 := zL1 hu9
   have gu9t := eq_true gu9
   have f10 := conv_s2b (T := tab) (src := 9) (dst := 35) rfl rfl rfl rfl rfl rfl (zL1 hu9)
   obtain ⟨r11, hr11, h⟩ := bind_some h
   refine za tok 5 ?_
   simp only [go_sem, rL, rD, rE, rA, f10]
   refine zb4 (L := [(3, .op 0 0 0), (4, .op 1 0 0), (49, .agg (encGSchema a0)), (50, .str x7), (53, .ds true (fM encB a1.fBody) (lN a1.fBody) false)]) (τ := [.cells 0 [.int .i64 a1.fKind, .int .i64 a1.fFrom, .int .i64 a1.fTo, .int .i64 a1.fID, .int .i64 a1.fVersion, .str a1.fMethod, .int .i64 a1.fErr, .str a1.fBody], .cells 0 [.int .i64 0, .int .i64 0, .int .i64 0, .int .i64 0, .int .i64 0, .str [], .int .i64 0, .str []]]) (.t [1, 2] false) ?_
   refine zh rfl rfl rfl (decode_Decode.ev a0 x7 a1.fBody r11 hr11 _) ?_
   rintro _ _ ⟨rfl, rfl⟩
   refine za tok 6 ?_
   simp only [go_sem, rL, rD, rE, rA, cellsGTree, encGSchema]
   refine zb ?_
   simp only [zd, upd, rE, reduceIte, zl, zn]
   refine hK _ _ ?_
   refine ze fun Z12 hZ12 => ?_
   refine rg tok [3, 4, 9, 58] fun K hK => ?_
   simp only [go_sem, rL, rE]
   refine hK _ _ ?_
   refine zA rfl (fun hc13 => ?_) (fun hc13 => ?_)
   · rw [if_neg hc13] at h
     have t14 := eq_false hc13
     refine rg tok [4, 5] fun K hK => ?_
     simp only [go_sem, rL, rD, rE, rA, t14]
     refine hK _ _ ?_
     refine zj ?_
     obtain rfl := Option.some.inj h
     exact retA
   · rw [if_pos hc13] at h
     have t15 := eq_true hc13
     refine zi ?_
     refine hZ12 _ _ ?_
     refine rc [3, 4, 10, 11] fun K hK => ?_
     obtain ⟨r16, hr16, h⟩ := bind_some h
     refine za tok 1 ?_
     simp only [go_sem, rL, rD, rE, rA, t15]
     refine zh rfl rfl rfl (encode_Encode.ev r11.1 r16 hr16 _) ?_
     rintro _ _ ⟨rfl, rfl⟩
     refine za tok 5 ?_
     simp only [go_sem, rL, rE, rA]
     refine zb ?_
     simp only [zd, upd, rE, reduceIte, zl, zn]
     refine hK _ _ ?_
     refine ze fun Z17 hZ17 => ?_
     refine rg tok [3, 4, 11, 66] fun K hK => ?_
     simp only [go_sem, rL, rE]
     refine hK _ _ ?_
     refine zA rfl (fun hc18 => ?_) (fun hc18 => ?_)
     · rw [if_neg hc18] at h
       have t19 := eq_false hc18
       refine rg tok [4, 5] fun K hK => ?_
       simp only [go_sem, rL, rD, rE, rA, t19]
       refine hK _ _ ?_
       refine zj ?_
       obtain rfl := Option.some.inj h
       exact retA
     · rw [if_pos hc18] at h
       have t20 := eq_true hc18
       refine zi ?_
       refine hZ17 _ _ ?_
       have f21 := zm4 (T := tab) (src := 35) (dst := 9) rfl rfl rfl rfl rfl rfl r16.1
       refine rg tok [3, 4] fun K hK => ?_
       simp only [go_sem, rL, rD, rE, rA, t20, f21]
       refine hK _ _ ?_
       refine rg tok [4, 5] fun K hK => ?_
       simp only [go_sem, rL, rD, rE, rA]
       refine hK _ _ ?_
       refine zj ?_
       obtain rfl := Option.some.inj h
       exact retA
def law25_awake  : Option Bool :=
 (proxy_Pass (⟨[97], [(⟨[109], ([] : List GField), ([] : List Int)⟩ : GMessage)], ([] : List GEnumeration), [(⟨[99], [109], [109]⟩ : GMethod)]⟩ : GSchema) (⟨1, 0, 0, 0, 0, [], 0, [1]⟩ : GPacket)).bind fun r1 => (proxy_Pass (⟨[97], [(⟨[109], ([] : List GField), ([] : List Int)⟩ : GMessage)], ([] : List GEnumeration), [(⟨[99], [109], [109]⟩ : GMethod)]⟩ : GSchema) (⟨3, 0, 0, 0, 0, [99], 0, [4, 2, 2, 2]⟩ : GPacket)).bind fun r2 => some (((r1.2 && r2.2) && (decide (r1.1.fBody = [1]))) && (decide (r2.1.fBody = [2, 2, 4, 2])))
theorem law25_awake.ok  (r : Bool) (h : law25_awake = some r) : ACalls Tryd.prog 24 [] [] (fun r' _ => r' = .bool r) := by
 refine zm (rs := [.tmp 0]) tok Tryd.func24 rfl Tryd.ntmps24 rfl Tryd.call24 (by simp) ?_
 refine zo [] trivial ?_
 unfold law25_awake at h
 refine rg tok [] fun K hK => ?_
 simp only [go_sem, rL]
 refine hK _ _ ?_
 refine rg tok [1] fun K hK => ?_
 simp only [go_sem, rL, rD, rE, rA, rM, zC, zG, List.range_succ, List.range_zero, true_and, Nat.reduceMod]
 refine hK _ _ ?_
 refine rc [1, 2, 3] fun K hK => ?_
 obtain ⟨r1, hr1, h⟩ := bind_some h
 refine za tok 2 ?_
 simp only [go_sem, rL, rD, rA]
 refine zh rfl rfl rfl (proxy_Pass.ok (⟨[97], [(⟨[109], ([] : List GField), ([] : List Int)⟩ : GMessage)], ([] : List GEnumeration), [(⟨[99], [109], [109]⟩ : GMethod)]⟩ : GSchema) (⟨1, 0, 0, 0, 0, [], 0, [1]⟩ : GPacket) r1 hr1).ld ?_
 rintro _ _ ⟨rfl, rfl⟩
 refine za tok 6 ?_
 simp only [go_sem, rL, rD, rE, rA, encGPacket]
 refine zb ?_
 simp only [zd, upd, rE, reduceIte, zl, zn]
 refine hK _ _ ?_
 refine rc [2, 3, 4, 5] fun K hK => ?_
 obtain ⟨r2, hr2, h⟩ := bind_some h
 refine za tok 2 ?_
 simp only [go_sem, rL, rD, rE, rA]
 refine zh rfl rfl rfl (proxy_Pass.ok (⟨[97], [(⟨[109], ([] : List GField), ([] : List Int)⟩ : GMessage)], ([] : List GEnumeration), [(⟨[99], [109], [109]⟩ : GMethod)]⟩ : GSchema) (⟨3, 0, 0, 0, 0, [99], 0, [4, 2, 2, 2]⟩ : GPacket) r2 hr2).ld ?_
 rintro _ _ ⟨rfl, rfl⟩
 refine za tok 6 ?_
 simp only [go_sem, rL, rD, rE, rA, encGPacket]
 refine zb ?_
 simp only [zd, upd, rE, reduceIte, zl, zn]
 refine hK _ _ ?_
 refine rc [0] fun K hK => ?_
 refine za tok 2 ?_
 simp only [go_sem, rL, rE]
 refine zp 2 (fun L τ => L = ([(2, .op 3 0 0), (4, .op 4 0 0), (26, .bool (r1.2 && r2.2))] : List (Nat × AV)) ∧ τ = ([.cells 0 [.str [109], .ds true [] 0 true, .ds true [] 0 true], .cells 0 [.str [99], .str [109], .str [109]], .cells 0 [.str [97], .os true 3 0 0 0 1 true, .ds true [] 0 true, .os true 3 1 0 0 1 true], .cells 0 [.int .i64 r1.1.fKind, .int .i64 r1.1.fFrom, .int .i64 r1.1.fTo, .int .i64 r1.1.fID, .int .i64 r1.1.fVersion, .str r1.1.fMethod, .int .i64 r1.1.fErr, .str r1.1.fBody], .cells 0 [.int .i64 r2.1.fKind, .int .i64 r2.1.fFrom, .int .i64 r2.1.fTo, .int .i64 r2.1.fID, .int .i64 r2.1.fVersion, .str r2.1.fMethod, .int .i64 r2.1.fErr, .str r2.1.fBody]] : Store)) ?_ ?_
 · refine zI (b := r1.2) 24 rfl (fun hg24 => ?_) (fun hg24 => ?_)
   · refine za tok 2 ?_
     simp only [go_sem, rL, rE]
     refine zb ⟨rfl, _, _, ⟨rfl, rfl⟩, .b hg24⟩
   · refine za tok 2 ?_
     simp only [go_sem, rL, rE]
     refine zb ⟨rfl, _, _, ⟨rfl, rfl⟩, .b hg24⟩
 rintro _ _ ⟨rfl, rfl⟩
 refine za tok 1 ?_
 simp only [go_sem, rL, rE]
 refine zp 4 (fun L τ => L = ([(4, .op 4 0 0), (31, .bool ((r1.2 && r2.2) && (decide (r1.1.fBody = [1]))))] : List (Nat × AV)) ∧ τ = ([.cells 0 [.str [109], .ds true [] 0 true, .ds true [] 0 true], .cells 0 [.str [99], .str [109], .str [109]], .cells 0 [.str [97], .os true 3 0 0 0 1 true, .ds true [] 0 true, .os true 3 1 0 0 1 true], .cells 0 [.int .i64 r1.1.fKind, .int .i64 r1.1.fFrom, .int .i64 r1.1.fTo, .int .i64 r1.1.fID, .int .i64 r1.1.fVersion, .str r1.1.fMethod, .int .i64 r1.1.fErr, .str r1.1.fBody], .cells 0 [.int .i64 r2.1.fKind, .int .i64 r2.1.fFrom, .int .i64 r2.1.fTo, .int .i64 r2.1.fID, .int .i64 r2.1.fVersion, .str r2.1.fMethod, .int .i64 r2.1.fErr, .str r2.1.fBody]] : Store)) ?_ ?_
 · refine zI (b := (r1.2 && r2.2)) 27 rfl (fun hg27 => ?_) (fun hg27 => ?_)
   · refine za tok 4 ?_
     simp only [go_sem, rL, rE, rA]
     refine zb ⟨rfl, _, _, ⟨rfl, rfl⟩, .b hg27⟩
   · refine za tok 4 ?_
     simp only [go_sem, rL, rE]
     refine zb ⟨rfl, _, _, ⟨rfl, rfl⟩, .b hg27⟩
 rintro _ _ ⟨rfl, rfl⟩
 refine za tok 1 ?_
 simp only [go_sem, rL, rE]
 refine zp 4 (fun L τ => L = ([(36, .bool (((r1.2 && r2.2) && (decide (r1.1.fBody = [1]))) && (decide (r2.1.fBody = [2, 2, 4, 2]))))] : List (Nat × AV)) ∧ τ = ([.cells 0 [.str [109], .ds true [] 0 true, .ds true [] 0 true], .cells 0 [.str [99], .str [109], .str [109]], .cells 0 [.str [97], .os true 3 0 0 0 1 true, .ds true [] 0 true, .os true 3 1 0 0 1 true], .cells 0 [.int .i64 r1.1.fKind, .int .i64 r1.1.fFrom, .int .i64 r1.1.fTo, .int .i64 r1.1.fID, .int .i64 r1.1.fVersion, .str r1.1.fMethod, .int .i64 r1.1.fErr, .str r1.1.fBody], .cells 0 [.int .i64 r2.1.fKind, .int .i64 r2.1.fFrom, .int .i64 r2.1.fTo, .int .i64 r2.1.fID, .int .i64 r2.1.fVersion, .str r2.1.fMethod, .int .i64 r2.1.fErr, .str r2.1.fBody]] : Store)) ?_ ?_
 · refine zI (b := ((r1.2 && r2.2) && (decide (r1.1.fBody = [1])))) 32 rfl (fun hg32 => ?_) (fun hg32 => ?_)
   · refine za tok 4 ?_
     simp only [go_sem, rL, rE, rA]
     refine zb ⟨rfl, _, _, ⟨rfl, rfl⟩, .b hg32⟩
   · refine za tok 4 ?_
     simp only [go_sem, rL, rE]
     refine zb ⟨rfl, _, _, ⟨rfl, rfl⟩, .b hg32⟩
 rintro _ _ ⟨rfl, rfl⟩
 refine za tok 1 ?_
 simp only [go_sem, rL]
 refine zb ?_
 simp only [zd, upd, rE, reduceIte, zl, zn]
 refine hK _ _ ?_
 refine zj ?_
 obtain rfl := Option.some.inj h
 exact retA
theorem law25_awake.ev  (r : Bool) (h : law25_awake = some r) (σ : Store) : ACalls Tryd.prog 24 [] σ (fun r' σ' => r' = .bool r ∧ σ' = σ) :=
 (law25_awake.ok  r h).c σ
def law00_small.l29 (self_law00_small : GTree → Int → Int → Option (Bool × Int)) (a1 : Int) (x12 : Int) (rec15 : Int → Int → Option (Bool × Int)) : List GTree → Int → Int → Option (Bool × Int)
 | [], x26, m0_25 => (rec15 (x12 + 1) m0_25)
 | y29 :: q29, x26, m0_25 => (self_law00_small y29 (IntKind.i64.wrap (a1 + 1)) m0_25).bind fun r41 => (if (!r41.1) = true then some (false, r41.2) else ((law00_small.l29 self_law00_small a1 x12 rec15 q29) (x26 + 1) r41.2))
def law00_small.l15 (self_law00_small : GTree → Int → Int → Option (Bool × Int)) (a1 : Int) : List GEntry → Int → Int → Option (Bool × Int)
 | [], x12, m0_11 => some (true, m0_11)
 | y15 :: q15, x12, m0_11 => (if 70 < (lN y15.fTrees : Int) then some (false, m0_11) else (law00_small.l29 self_law00_small a1 x12 (law00_small.l15 self_law00_small a1 q15) y15.fTrees 0 m0_11))
def law00_small.l8 (self_law00_small : GTree → Int → Int → Option (Bool × Int)) (a0 : GTree) (a1 : Int) (a2 : Int) : List GRaw → Int → Option (Bool × Int)
 | [], x6 => (law00_small.l15 self_law00_small a1 a0.fEntries 0 (IntKind.i64.wrap (a2 + 1)))
 | y8 :: q8, x6 => (if 5000 < (lN y8.fB : Int) then some (false, IntKind.i64.wrap (a2 + 1)) else ((law00_small.l8 self_law00_small a0 a1 a2 q8) (x6 + 1)))
def law00_small.body (self_law00_small : GTree → Int → Int → Option (Bool × Int)) (a0 : GTree) (a1 : Int) (a2 : Int) : Option (Bool × Int) :=
 (if (((((decide (200 < IntKind.i64.wrap (a2 + 1))) || (decide (13 < a1))) || (decide (5000 < (lN a0.fS : Int)))) || (decide (40 < (lN a0.fRest : Int)))) || (decide (40 < (lN a0.fEntries : Int)))) = true then some (false, IntKind.i64.wrap (a2 + 1)) else (law00_small.l8 self_law00_small a0 a1 a2 a0.fRest 0))
theorem law00_small.step (self_law00_small : GTree → Int → Int → Option (Bool × Int)) (ih_law00_small : ∀ (a0 : GTree) (a1 : Int) (a2 : Int) (r : Bool × Int), self_law00_small a0 a1 a2 = some r → ACalls Tryd.prog 47 [.agg (cellsGTree a0), .int .i64 a1, .op 0 0 0] [.cells 0 [.int .i64 a2]] (fun r' σ' => r' = .bool r.1 ∧ σ' = [.cells 0 [.int .i64 r.2]])) (a0 : GTree) (a1 : Int) (a2 : Int) (r : Bool × Int) (h : law00_small.body self_law00_small a0 a1 a2 = some r) : ACalls Tryd.prog 47 [.agg (cellsGTree a0), .int .i64 a1, .op 0 0 0] [.cells 0 [.int .i64 a2]] (fun r' σ' => r' = .bool r.1 ∧ σ' = [.cells 0 [.int .i64 r.2]]) := by
 refine zq4 [0] (rs := [.tmp 6]) tok Tryd.func47 rfl Tryd.ntmps47 rfl Tryd.call47 (by simp) rfl ?_
 refine zo [(0, .agg (cellsGTree a0)), (1, .int .i64 a1), (2, .op 0 0 0)] ⟨rfl, rfl, rfl, trivial⟩ ?_
 unfold law00_small.body at h
 refine rg tok [1, 2, 3] fun K hK => ?_
 simp only [go_sem, rL, rE, rA, reduceCtorEq, cellsGTree]
 refine hK _ _ ?_
 refine rg tok [1, 2, 3] fun K hK => ?_
 simp only [go_sem, rL, rD, rE]
 refine hK _ _ ?_
 refine ze fun Z1 hZ1 => ?_
 refine rc [1, 2, 3, 40] fun K hK => ?_
 refine za tok 5 ?_
 simp only [go_sem, rL, rE]
 refine zp 3 (fun L τ => L = ([(1, .int .i64 a1), (2, .op 0 0 0), (3, .op 1 0 0), (22, .bool ((decide (200 < IntKind.i64.wrap (a2 + 1))) || (decide (13 < a1))))] : List (Nat × AV)) ∧ τ = ([.cells 0 [.int .i64 (IntKind.i64.wrap (a2 + 1))], .cells 0 [.int .i64 a0.fKind, .int .i64 a0.fN, .str a0.fS, .ds true (fM encGEntry a0.fEntries) (lN a0.fEntries) false, .ds true (fM encGRaw a0.fRest) (lN a0.fRest) false]] : Store)) ?_ ?_
 · refine za1 19 rfl (fun hg19 => ?_) (fun hg19 => ?_)
   · have t2 := eq_true hg19
     refine za tok 3 ?_
     simp only [go_sem, rL, rE]
     refine zb ⟨rfl, _, _, ⟨rfl, rfl⟩, .p t2⟩
   · have t3 := eq_false hg19
     refine za tok 3 ?_
     simp only [go_sem, rL, rE]
     refine zb ⟨rfl, _, _, ⟨rfl, rfl⟩, .p t3⟩
 rintro _ _ ⟨rfl, rfl⟩
 refine za tok 1 ?_
 simp only [go_sem, rL, rE]
 refine zp 5 (fun L τ => L = ([(1, .int .i64 a1), (2, .op 0 0 0), (3, .op 1 0 0), (28, .bool (((decide (200 < IntKind.i64.wrap (a2 + 1))) || (decide (13 < a1))) || (decide (5000 < (lN a0.fS : Int)))))] : List (Nat × AV)) ∧ τ = ([.cells 0 [.int .i64 (IntKind.i64.wrap (a2 + 1))], .cells 0 [.int .i64 a0.fKind, .int .i64 a0.fN, .str a0.fS, .ds true (fM encGEntry a0.fEntries) (lN a0.fEntries) false, .ds true (fM encGRaw a0.fRest) (lN a0.fRest) false]] : Store)) ?_ ?_
 · refine zI (b := ((decide (200 < IntKind.i64.wrap (a2 + 1))) || (decide (13 < a1)))) 23 rfl (fun hg23 => ?_) (fun hg23 => ?_)
   · refine za tok 5 ?_
     simp only [go_sem, rL, rE]
     refine zb ⟨rfl, _, _, ⟨rfl, rfl⟩, .b hg23⟩
   · refine za tok 5 ?_
     simp only [go_sem, rL, rE, rA]
     refine zb ⟨rfl, _, _, ⟨rfl, rfl⟩, .b hg23⟩
 rintro _ _ ⟨rfl, rfl⟩
 refine za tok 1 ?_
 simp only [go_sem, rL, rE]
 refine zp 5 (fun L τ => L = ([(1, .int .i64 a1), (2, .op 0 0 0), (3, .op 1 0 0), (34, .bool ((((decide (200 < IntKind.i64.wrap (a2 + 1))) || (decide (13 < a1))) || (decide (5000 < (lN a0.fS : Int)))) || (decide (40 < (lN a0.fRest : Int)))))] : List (Nat × AV)) ∧ τ = ([.cells 0 [.int .i64 (IntKind.i64.wrap (a2 + 1))], .cells 0 [.int .i64 a0.fKind, .int .i64 a0.fN, .str a0.fS, .ds true (fM encGEntry a0.fEntries) (lN a0.fEntries) false, .ds true (fM encGRaw a0.fRest) (lN a0.fRest) false]] : Store)) ?_ ?_
 · refine zI (b := (((decide (200 < IntKind.i64.wrap (a2 + 1))) || (decide (13 < a1))) || (decide (5000 < (lN a0.fS : Int))))) 29 rfl (fun hg29 => ?_) (fun hg29 => ?_)
   · refine za tok 5 ?_
     simp only [go_sem, rL, rE]
     refine zb ⟨rfl, _, _, ⟨rfl, rfl⟩, .b hg29⟩
   · refine za tok 5 ?_
     simp only [go_sem, rL, rE, rA]
     refine zb ⟨rfl, _, _, ⟨rfl, rfl⟩, .b hg29⟩
 rintro _ _ ⟨rfl, rfl⟩
 refine za tok 1 ?_
 simp only [go_sem, rL, rE]
 refine zp 5 (fun L τ => L = ([(1, .int .i64 a1), (2, .op 0 0 0), (3, .op 1 0 0), (40, .bool (((((decide (200 < IntKind.i64.wrap (a2 + 1))) || (decide (13 < a1))) || (decide (5000 < (lN a0.fS : Int)))) || (decide (40 < (lN a0.fRest : Int)))) || (decide (40 < (lN a0.fEntries : Int)))))] : List (Nat × AV)) ∧ τ = ([.cells 0 [.int .i64 (IntKind.i64.wrap (a2 + 1))], .cells 0 [.int .i64 a0.fKind, .int .i64 a0.fN, .str a0.fS, .ds true (fM encGEntry a0.fEntries) (lN a0.fEntries) false, .ds true (fM encGRaw a0.fRest) (lN a0.fRest) false]] : Store)) ?_ ?_
 · refine zI (b := ((((decide (200 < IntKind.i64.wrap (a2 + 1))) || (decide (13 < a1))) || (decide (5000 < (lN a0.fS : Int)))) || (decide (40 < (lN a0.fRest : Int))))) 35 rfl (fun hg35 => ?_) (fun hg35 => ?_)
   · refine za tok 5 ?_
     simp only [go_sem, rL, rE]
     refine zb ⟨rfl, _, _, ⟨rfl, rfl⟩, .b hg35⟩
   · refine za tok 5 ?_
     simp only [go_sem, rL, rE, rA]
     refine zb ⟨rfl, _, _, ⟨rfl, rfl⟩, .b hg35⟩
 rintro _ _ ⟨rfl, rfl⟩
 refine zb ?_
 simp only [zd, rE, reduceIte, zl, zn]
 refine hK _ _ ?_
 refine zx (b := (((((decide (200 < IntKind.i64.wrap (a2 + 1))) || (decide (13 < a1))) || (decide (5000 < (lN a0.fS : Int)))) || (decide (40 < (lN a0.fRest : Int)))) || (decide (40 < (lN a0.fEntries : Int))))) rfl (fun hc4 => ?_) (fun hc4 => ?_)
 · rw [if_pos hc4] at h
   refine rg tok [6] fun K hK => ?_
   simp only [go_sem, rL, rE]
   refine hK _ _ ?_
   refine zj ?_
   obtain rfl := Option.some.inj h
   simp only [retQ, zS, zT, zi1, exists_eq_left', go_sem, rA]
   refine ⟨by decide, by simp, ?_, ?_⟩
   · first | rfl | (simp only [go_sem, rL, rD, rE, rA, rM, rS, reduceIte, reduceCtorEq, push_cast, if_true, dZ, nZ, mC, mN, mP, Bool.or_true, Bool.or_false, Bool.and_true, Bool.and_false, Bool.not_true, Bool.not_false, zy] <;> rfl)
   · first | rfl | (simp only [go_sem, rL, rD, rE, rA, rM, rS, reduceIte, reduceCtorEq, push_cast, if_true, dZ, nZ, mC, mN, mP, Bool.or_true, Bool.or_false, Bool.and_true, Bool.and_false, Bool.not_true, Bool.not_false, zy] <;> rfl)
 · rw [if_F hc4] at h
   refine zi ?_
   refine hZ1 _ _ ?_
   refine ze fun Z5 hZ5 => ?_
   refine rg tok [1, 2, 3, 7] fun K hK => ?_
   simp only [go_sem, rL, rE]
   refine hK _ _ ?_
   refine zk ?_
   refine zK1 1 rfl fun hb8 => ?_
   replace hb8 : lN a0.fRest ≤ 9223372036854775807 := hb8.2.2.2.2.1.1
   refine zw (fun m L τ => ∃ (p8 q8 : List GRaw) (x6 : Int), m = lN q8 ∧ L = ([(1, .int .i64 a1), (2, .op 0 0 0), (3, .op 1 0 0), (7, .int .i64 x6)] : List (Nat × AV)) ∧ τ = ([.cells 0 [.int .i64 (IntKind.i64.wrap (a2 + 1))], .cells 0 [.int .i64 a0.fKind, .int .i64 a0.fN, .str a0.fS, .ds true (fM encGEntry a0.fEntries) (lN a0.fEntries) false, .ds true (fM encGRaw a0.fRest) (lN a0.fRest) false]] : Store) ∧ a0.fRest = p8 ++ q8 ∧ x6 = (lN p8 : Int) ∧ law00_small.l8 self_law00_small a0 a1 a2 q8 x6 = some r) _ ⟨[], a0.fRest, 0, rfl, rfl, rfl, rfl, rfl, h⟩ .s ?_
   rintro m L τ ⟨p8, q8, x6, rfl, rfl, rfl, hE8, hi8, h⟩
   rcases q8 with _ | ⟨y8, q8⟩
   · have hz8 := zN hE8 hi8
     simp only [law00_small.l8] at h
     refine ze fun Z9 hZ9 => ?_
     refine rg tok [1, 2, 3, 7, 45] fun K hK => ?_
     simp only [go_sem, rL, rE, rA, hz8]
     refine hK _ _ ?_
     refine zq rfl ?_
     refine zz ?_
     refine hZ5 _ _ ?_
     refine ze fun Z10 hZ10 => ?_
     refine rg tok [1, 2, 3, 8] fun K hK => ?_
     simp only [go_sem, rL, rE]
     refine hK _ _ ?_
     refine zk ?_
     refine zK1 1 rfl fun hb15 => ?_
     replace hb15 : lN a0.fEntries ≤ 9223372036854775807 := hb15.2.2.2.1.1
     refine zw (fun m L τ => ∃ (p15 q15 : List GEntry) (x12 : Int) (m0_11 : Int), m = lN q15 ∧ L = ([(1, .int .i64 a1), (2, .op 0 0 0), (3, .op 1 0 0), (8, .int .i64 x12)] : List (Nat × AV)) ∧ τ = ([.cells 0 [.int .i64 m0_11], .cells 0 [.int .i64 a0.fKind, .int .i64 a0.fN, .str a0.fS, .ds true (fM encGEntry a0.fEntries) (lN a0.fEntries) false, .ds true (fM encGRaw a0.fRest) (lN a0.fRest) false]] : Store) ∧ a0.fEntries = p15 ++ q15 ∧ x12 = (lN p15 : Int) ∧ law00_small.l15 self_law00_small a1 q15 x12 m0_11 = some r) _ ⟨[], a0.fEntries, 0, IntKind.i64.wrap (a2 + 1), rfl, rfl, rfl, rfl, rfl, h⟩ .s ?_
     rintro m L τ ⟨p15, q15, x12, m0_11, rfl, rfl, rfl, hE15, hi15, h⟩
     rcases q15 with _ | ⟨y15, q15⟩
     · have hz15 := zN hE15 hi15
       simp only [law00_small.l15] at h
       refine ze fun Z16 hZ16 => ?_
       refine rg tok [1, 2, 3, 8, 60] fun K hK => ?_
       simp only [go_sem, rL, rE, rA, hz15]
       refine hK _ _ ?_
       refine zq rfl ?_
       refine zz ?_
       refine hZ10 _ _ ?_
       refine rg tok [6] fun K hK => ?_
       simp only [go_sem, rL, rE]
       refine hK _ _ ?_
       refine zj ?_
       obtain rfl := Option.some.inj h
       simp only [retQ, zS, zT, zi1, exists_eq_left', go_sem, rA]
       refine ⟨by decide, by simp, ?_, ?_⟩
       · first | rfl | (simp only [go_sem, rL, rD, rE, rA, rM, rS, reduceIte, reduceCtorEq, push_cast, if_true, dZ, nZ, mC, mN, mP, Bool.or_true, Bool.or_false, Bool.and_true, Bool.and_false, Bool.not_true, Bool.not_false, zy] <;> rfl)
       · first | rfl | (simp only [go_sem, rL, rD, rE, rA, rM, rS, reduceIte, reduceCtorEq, push_cast, if_true, dZ, nZ, mC, mN, mP, Bool.or_true, Bool.or_false, Bool.and_true, Bool.and_false, Bool.not_true, Bool.not_false, zy] <;> rfl)
     · obtain ⟨hz15, hw15, hx15, hE'15, hi'15⟩ := zK hE15 hi15 hb15
       simp only [law00_small.l15] at h
       refine ze fun Z17 hZ17 => ?_
       refine rg tok [1, 2, 3, 8, 60] fun K hK => ?_
       simp only [go_sem, rL, rE, rA, hz15]
       refine hK _ _ ?_
       refine zt rfl ?_
       refine zi ?_
       refine hZ17 _ _ ?_
       refine ze fun Z18 hZ18 => ?_
       refine zk ?_
       refine ze fun Z19 hZ19 => ?_
       have f20 := E40.idxS hx15
       have f21 := E40.fldS (f := 59) rfl rfl hx15 (o := 1) (by decide)
       refine rg tok [1, 2, 3, 8, 70] fun K hK => ?_
       simp only [go_sem, rL, rE, rA, cellsGEntry, zB, f20, f21]
       refine hK _ _ ?_
       refine zA rfl (fun hc22 => ?_) (fun hc22 => ?_)
       · rw [if_pos hc22] at h
         have t23 := eq_true hc22
         refine rg tok [6] fun K hK => ?_
         simp only [go_sem, rL, rE, t23]
         refine hK _ _ ?_
         refine zj ?_
         obtain rfl := Option.some.inj h
         simp only [retQ, zS, zT, zi1, exists_eq_left', go_sem, rA]
         refine ⟨by decide, by simp, ?_, ?_⟩
         · first | rfl | (simp only [go_sem, rL, rD, rE, rA, rM, rS, reduceIte, reduceCtorEq, push_cast, if_true, dZ, nZ, mC, mN, mP, Bool.or_true, Bool.or_false, Bool.and_true, Bool.and_false, Bool.not_true, Bool.not_false, zy] <;> rfl)
         · first | rfl | (simp only [go_sem, rL, rD, rE, rA, rM, rS, reduceIte, reduceCtorEq, push_cast, if_true, dZ, nZ, mC, mN, mP, Bool.or_true, Bool.or_false, Bool.and_true, Bool.and_false, Bool.not_true, Bool.not_false, zy] <;> rfl)
       · rw [if_neg hc22] at h
         have t24 := eq_false hc22
         refine zi ?_
         refine hZ19 _ _ ?_
         refine rg tok [1, 2, 3, 8, 9] fun K hK => ?_
         simp only [go_sem, rL, rE, t24]
         refine hK _ _ ?_
         refine zk ?_
         refine zK1 1 rfl fun hb29 => ?_
         replace hb29 := zF5 hb29.2.2.2.1.2 hx15
         rw [zB] at hb29
         replace hb29 : lN y15.fTrees ≤ 9223372036854775807 := hb29.2.1.1
         refine zw (fun m L τ => ∃ (p29 q29 : List GTree) (x26 : Int) (m0_25 : Int), m = lN q29 ∧ L = ([(1, .int .i64 a1), (2, .op 0 0 0), (3, .op 1 0 0), (8, .int .i64 x12), (9, .int .i64 x26)] : List (Nat × AV)) ∧ τ = ([.cells 0 [.int .i64 m0_25], .cells 0 [.int .i64 a0.fKind, .int .i64 a0.fN, .str a0.fS, .ds true (fM encGEntry a0.fEntries) (lN a0.fEntries) false, .ds true (fM encGRaw a0.fRest) (lN a0.fRest) false]] : Store) ∧ y15.fTrees = p29 ++ q29 ∧ x26 = (lN p29 : Int) ∧ law00_small.l29 self_law00_small a1 x12 (law00_small.l15 self_law00_small a1 q15) q29 x26 m0_25 = some r) _ ⟨[], y15.fTrees, 0, m0_11, rfl, rfl, rfl, rfl, rfl, h⟩ .s ?_
         rintro m L τ ⟨p29, q29, x26, m0_25, rfl, rfl, rfl, hE29, hi29, h⟩
         rcases q29 with _ | ⟨y29, q29⟩
         · have hz29 := zN hE29 hi29
           simp only [law00_small.l29] at h
           refine ze fun Z30 hZ30 => ?_
           have f31 := E40.idxS hx15
           have f32 := E40.fldS (f := 59) rfl rfl hx15 (o := 1) (by decide)
           refine rg tok [1, 2, 3, 8, 9, 79] fun K hK => ?_
           simp only [go_sem, rL, rE, rA, cellsGEntry, zB, hz29, f31, f32]
           refine hK _ _ ?_
           refine zq rfl ?_
           refine zz ?_
           refine hZ18 _ _ ?_
           refine rgE tok [1, 2, 3, 8] fun K hK => ?_
           simp only [go_sem, rL, rE, hw15]
           refine hK _ _ ?_
           exact ⟨_, _, _, nS q15.length, ⟨p15 ++ [y15], q15, x12 + 1, m0_25, rfl, rfl, rfl, hE'15, hi'15, h⟩, .s⟩
         · obtain ⟨hz29, hw29, hx29, hE'29, hi'29⟩ := zK hE29 hi29 hb29
           simp only [law00_small.l29] at h
           refine ze fun Z33 hZ33 => ?_
           have f34 := E40.idxS hx15
           have f35 := E40.fldS (f := 59) rfl rfl hx15 (o := 1) (by decide)
           refine rg tok [1, 2, 3, 8, 9, 79] fun K hK => ?_
           simp only [go_sem, rL, rE, rA, cellsGEntry, zB, hz29, f34, f35]
           refine hK _ _ ?_
           refine zt rfl ?_
           refine zi ?_
           refine hZ33 _ _ ?_
           refine ze fun Z36 hZ36 => ?_
           refine zk ?_
           refine rc [1, 2, 3, 8, 9, 95] fun K hK => ?_
           have f37 := E40.idxS hx15
           have f38 := E40.fldS (f := 59) rfl rfl hx15 (o := 1) (by decide)
           have f39 := E59.idxS hx29
           have f40 := E59.loadS rfl rfl hx29
           obtain ⟨r41, hr41, h⟩ := bind_some h
           refine za tok 10 ?_
           simp only [go_sem, rL, rE, rA, cellsGEntry, cellsGTree, zB, zR, f37, f38, f39, f40]
           refine za tok 2 ?_
           simp only [go_sem, rL, rE]
           refine zh rfl rfl rfl (@id (ACalls Tryd.prog 47 [.agg (cellsGTree y29), .int .i64 (IntKind.i64.wrap (a1 + 1)), .op 0 0 0] [.cells 0 [.int .i64 m0_25], .cells 0 [.int .i64 a0.fKind, .int .i64 a0.fN, .str a0.fS, .ds true (fM encGEntry a0.fEntries) (lN a0.fEntries) false, .ds true (fM encGRaw a0.fRest) (lN a0.fRest) false]] (fun r' σ' => r' = .bool r41.1 ∧ σ' = [.cells 0 [.int .i64 r41.2], .cells 0 [.int .i64 a0.fKind, .int .i64 a0.fN, .str a0.fS, .ds true (fM encGEntry a0.fEntries) (lN a0.fEntries) false, .ds true (fM encGRaw a0.fRest) (lN a0.fRest) false]])) ((ih_law00_small y29 (IntKind.i64.wrap (a1 + 1)) m0_25 r41 hr41).i [0])) ?_
           rintro _ _ ⟨rfl, rfl⟩
           refine za tok 1 ?_
           simp only [go_sem, rL, rE]
           refine zb ?_
           simp only [zd, upd, rE, reduceIte, zl, zn]
           refine hK _ _ ?_
           refine zx (b := (!r41.1)) rfl (fun hc42 => ?_) (fun hc42 => ?_)
           · rw [if_pos hc42] at h
             refine rg tok [6] fun K hK => ?_
             simp only [go_sem, rL, rE]
             refine hK _ _ ?_
             refine zj ?_
             obtain rfl := Option.some.inj h
             simp only [retQ, zS, zT, zi1, exists_eq_left', go_sem, rA]
             refine ⟨by decide, by simp, ?_, ?_⟩
             · first | rfl | (simp only [go_sem, rL, rD, rE, rA, rM, rS, reduceIte, reduceCtorEq, push_cast, if_true, dZ, nZ, mC, mN, mP, Bool.or_true, Bool.or_false, Bool.and_true, Bool.and_false, Bool.not_true, Bool.not_false, zy] <;> rfl)
             · first | rfl | (simp only [go_sem, rL, rD, rE, rA, rM, rS, reduceIte, reduceCtorEq, push_cast, if_true, dZ, nZ, mC, mN, mP, Bool.or_true, Bool.or_false, Bool.and_true, Bool.and_false, Bool.not_true, Bool.not_false, zy] <;> rfl)
           · rw [if_F hc42] at h
             refine zi ?_
             refine hZ36 _ _ ?_
             refine rgE tok [1, 2, 3, 8, 9] fun K hK => ?_
             simp only [go_sem, rL, rE, hw29]
             refine hK _ _ ?_
             exact ⟨_, _, _, nS q29.length, ⟨p29 ++ [y29], q29, x26 + 1, r41.2, rfl, rfl, rfl, hE'29, hi'29, h⟩, .s⟩
   · obtain ⟨hz8, hw8, hx8, hE'8, hi'8⟩ := zK hE8 hi8 hb8
     simp only [law00_small.l8] at h
     refine ze fun Z43 hZ43 => ?_
     refine rg tok [1, 2, 3, 7, 45] fun K hK => ?_
     simp only [go_sem, rL, rE, rA, hz8]
     refine hK _ _ ?_
     refine zt rfl ?_
     refine zi ?_
     refine hZ43 _ _ ?_
     refine ze fun Z44 hZ44 => ?_
     refine zk ?_
     have f45 := E22.idxS hx8
     have f46 := E22.fldS (f := 9) rfl rfl hx8 (o := 3) (by decide)
     refine rg tok [1, 2, 3, 7, 55] fun K hK => ?_
     simp only [go_sem, rL, rE, rA, encGRaw, f45, f46]
     refine hK _ _ ?_
     refine zA rfl (fun hc47 => ?_) (fun hc47 => ?_)
     · rw [if_pos hc47] at h
       have t48 := eq_true hc47
       refine rg tok [6] fun K hK => ?_
       simp only [go_sem, rL, rE, t48]
       refine hK _ _ ?_
       refine zj ?_
       obtain rfl := Option.some.inj h
       simp only [retQ, zS, zT, zi1, exists_eq_left', go_sem, rA]
       refine ⟨by decide, by simp, ?_, ?_⟩
       · first | rfl | (simp only [go_sem, rL, rD, rE, rA, rM, rS, reduceIte, reduceCtorEq, push_cast, if_true, dZ, nZ, mC, mN, mP, Bool.or_true, Bool.or_false, Bool.and_true, Bool.and_false, Bool.not_true, Bool.not_false, zy] <;> rfl)
       · first | rfl | (simp only [go_sem, rL, rD, rE, rA, rM, rS, reduceIte, reduceCtorEq, push_cast, if_true, dZ, nZ, mC, mN, mP, Bool.or_true, Bool.or_false, Bool.and_true, Bool.and_false, Bool.not_true, Bool.not_false, zy] <;> rfl)
     · rw [if_neg hc47] at h
       have t49 := eq_false hc47
       refine zi ?_
       refine hZ44 _ _ ?_
       refine rgE tok [1, 2, 3, 7] fun K hK => ?_
       simp only [go_sem, rL, rE, hw8, t49]
       refine hK _ _ ?_
       exact ⟨_, _, _, nS q8.length, ⟨p8 ++ [y8], q8, x6 + 1, rfl, rfl, rfl, hE'8, hi'8, h⟩, .s⟩
def law00_small : Nat → GTree → Int → Int → Option (Bool × Int)
 | 0, _, _, _ => none
 | k + 1, a0, a1, a2 => law00_small.body (law00_small k) a0 a1 a2
theorem law00_small.all (k : Nat) : (∀ (a0 : GTree) (a1 : Int) (a2 : Int) (r : Bool × Int), law00_small k a0 a1 a2 = some r → ACalls Tryd.prog 47 [.agg (cellsGTree a0), .int .i64 a1, .op 0 0 0] [.cells 0 [.int .i64 a2]] (fun r' σ' => r' = .bool r.1 ∧ σ' = [.cells 0 [.int .i64 r.2]])) := by
 induction k with
 | zero => exact (fun a0 a1 a2 r h => by simp only [law00_small] at h; cases h)
 | succ k ih => exact (fun a0 a1 a2 r h => law00_small.step _ ih a0 a1 a2 r (by simpa only [law00_small] using h))
theorem law00_small.ok (k : Nat) (a0 : GTree) (a1 : Int) (a2 : Int) (r : Bool × Int) (h : law00_small k a0 a1 a2 = some r) : ACalls Tryd.prog 47 [.agg (cellsGTree a0), .int .i64 a1, .op 0 0 0] [.cells 0 [.int .i64 a2]] (fun r' σ' => r' = .bool r.1 ∧ σ' = [.cells 0 [.int .i64 r.2]]) := (law00_small.all k) a0 a1 a2 r h
def law00_Small (a0 : GTree) : Option Bool :=
 (law00_small rounds a0 0 0).bind fun r1 => some r1.1
theorem law00_Small.ok (a0 : GTree) (r : Bool) (h : law00_Small a0 = some r) : ACalls Tryd.prog 27 [.agg (cellsGTree a0)] [] (fun r' _ => r' = .bool r) := by
 refine zm (rs := [.tmp 2]) tok Tryd.func27 rfl Tryd.ntmps27 rfl Tryd.call27 (by simp) ?_
 refine zo [(0, .agg (cellsGTree a0))] ⟨rfl, trivial⟩ ?_
 unfold law00_Small at h
 refine rg tok [1] fun K hK => ?_
 simp only [go_sem, rL, rE, rA, reduceCtorEq, cellsGTree]
 refine hK _ _ ?_
 refine rg tok [1, 3] fun K hK => ?_
 simp only [go_sem, rL, rD, rE]
 refine hK _ _ ?_
 refine rc [2] fun K hK => ?_
 obtain ⟨r1, hr1, h⟩ := bind_some h
 refine za tok 1 ?_
 simp only [go_sem, rL, rD, rE, rA]
 refine zh rfl rfl rfl (@id (ACalls Tryd.prog 47 [.agg (cellsGTree a0), .int .i64 0, .op 1 0 0] [.cells 0 [.int .i64 a0.fKind, .int .i64 a0.fN, .str a0.fS, .ds true (fM encGEntry a0.fEntries) (lN a0.fEntries) false, .ds true (fM encGRaw a0.fRest) (lN a0.fRest) false], .cells 0 [.int .i64 0]] (fun r' σ' => r' = .bool r1.1 ∧ σ' = [.cells 0 [.int .i64 a0.fKind, .int .i64 a0.fN, .str a0.fS, .ds true (fM encGEntry a0.fEntries) (lN a0.fEntries) false, .ds true (fM encGRaw a0.fRest) (lN a0.fRest) false], .cells 0 [.int .i64 r1.2]])) ((law00_small.ok rounds a0 0 0 r1 hr1).i [1])) ?_
 rintro _ _ ⟨rfl, rfl⟩
 refine za tok 1 ?_
 simp only [go_sem, rL, rE]
 refine zb ?_
 simp only [zd, upd, rE, reduceIte, zl, zn]
 refine hK _ _ ?_
 refine zj ?_
 obtain rfl := Option.some.inj h
 exact retA
theorem law00_Small.ev (a0 : GTree) (r : Bool) (h : law00_Small a0 = some r) (σ : Store) : ACalls Tryd.prog 27 [.agg (cellsGTree a0)] σ (fun r' σ' => r' = .bool r ∧ σ' = σ) :=
 (law00_Small.ok a0 r h).c σ
def law25_ProxyUnknown.j13 (m3_12 : GPacket) : Option Bool :=
 (proxy_Pass (⟨[97], [(⟨[109], ([] : List GField), ([] : List Int)⟩ : GMessage)], ([] : List GEnumeration), [(⟨[99], [109], [109]⟩ : GMethod)]⟩ : GSchema) m3_12).bind fun r14 => (if (r14.2 && (decide (r14.1.fKind = m3_12.fKind) && (decide (r14.1.fFrom = m3_12.fFrom) && (decide (r14.1.fTo = m3_12.fTo) && (decide (r14.1.fID = m3_12.fID) && (decide (r14.1.fVersion = m3_12.fVersion) && (decide (r14.1.fMethod = m3_12.fMethod) && (decide (r14.1.fErr = m3_12.fErr) && decide (r14.1.fBody = m3_12.fBody))))))))) = true then (law25_awake).bind fun r15 => some r15 else some false).bind fun c15 => some c15
def law25_ProxyUnknown (a0 : GTree) (a1 : Bool) : Option Bool :=
 (law00_Small a0).bind fun r2 => (if (!r2) = true then (law25_awake).bind fun r4 => some r4 else (ref11_Encode a0).bind fun r5 => (if r5.2 = 0 then (if a1 = true then (law25_ProxyUnknown.j13 (⟨4, 1, 0, 7, 2, [99], 0, r5.1⟩ : GPacket)) else (law25_ProxyUnknown.j13 (⟨3, 1, 0, 7, 2, [99], 0, r5.1⟩ : GPacket))) else (law25_awake).bind fun r9 => some r9))
theorem law25_ProxyUnknown.ok (a0 : GTree) (a1 : Bool) (r : Bool) (h : law25_ProxyUnknown a0 a1 = some r) : ACalls Tryd.prog 7 [.agg (cellsGTree a0), .bool a1] [] (fun r' _ => r' = .bool r) := by
 refine zm (rs := [.tmp 4]) tok Tryd.func7 rfl Tryd.ntmps7 rfl Tryd.call7 (by simp) ?_
 refine zo [(0, .agg (cellsGTree a0)), (1, .bool a1)] ⟨rfl, rfl, trivial⟩ ?_
 unfold law25_ProxyUnknown at h
 refine rg tok [1, 2] fun K hK => ?_
 simp only [go_sem, rL, rE, rA, reduceCtorEq, cellsGTree]
 refine hK _ _ ?_
 refine ze fun Z1 hZ1 => ?_
 refine rc [1, 2, 13] fun K hK => ?_
 obtain ⟨r2, hr2, h⟩ := bind_some h
 refine za tok 1 ?_
 simp only [go_sem, rL, rD, rE, rA]
 refine zh rfl rfl rfl (law00_Small.ev a0 r2 hr2 _) ?_
 rintro _ _ ⟨rfl, rfl⟩
 refine za tok 1 ?_
 simp only [go_sem, rL, rE]
 refine zb ?_
 simp only [zd, upd, rE, reduceIte, zl, zn]
 refine hK _ _ ?_
 refine zx (b := (!r2)) rfl (fun hc3 => ?_) (fun hc3 => ?_)
 · rw [if_pos hc3] at h
   refine rc [4] fun K hK => ?_
   obtain ⟨r4, hr4, h⟩ := bind_some h
   refine zh rfl rfl rfl (law25_awake.ev  r4 hr4 _) ?_
   rintro _ _ ⟨rfl, rfl⟩
   refine za tok 1 ?_
   simp only [go_sem, rL, rE]
   refine zb ?_
   simp only [zd, upd, rE, reduceIte, zl, zn]
   refine hK _ _ ?_
   refine zj ?_
   obtain rfl := Option.some.inj h
   exact retA
 · rw [if_F hc3] at h
   refine zi ?_
   refine hZ1 _ _ ?_
   refine rg tok [1, 2, 5] fun K hK => ?_
   simp only [go_sem, rL, rD, rE, rA, rM, zC, zG, List.range_succ, List.range_zero, true_and, Nat.reduceMod]
   refine hK _ _ ?_
   refine rc [1, 5, 6, 7] fun K hK => ?_
   obtain ⟨r5, hr5, h⟩ := bind_some h
   refine za tok 1 ?_
   simp only [go_sem, rL, rD, rE, rA]
   refine zh rfl rfl rfl (ref11_Encode.ev a0 r5 hr5 _) ?_
   rintro _ _ ⟨rfl, rfl⟩
   refine za tok 5 ?_
   simp only [go_sem, rL, rE, rA]
   refine zb ?_
   simp only [zd, upd, rE, reduceIte, zl, zn]
   refine hK _ _ ?_
   refine ze fun Z6 hZ6 => ?_
   refine rg tok [1, 5, 6, 26] fun K hK => ?_
   simp only [go_sem, rL, rE]
   refine hK _ _ ?_
   refine zA rfl (fun hc7 => ?_) (fun hc7 => ?_)
   · rw [if_neg hc7] at h
     have t8 := eq_false hc7
     refine rc [4] fun K hK => ?_
     obtain ⟨r9, hr9, h⟩ := bind_some h
     refine zh rfl rfl rfl (law25_awake.ev  r9 hr9 _) ?_
     rintro _ _ ⟨rfl, rfl⟩
     refine za tok 1 ?_
     simp only [go_sem, rL, rE, t8]
     refine zb ?_
     simp only [zd, upd, rE, reduceIte, zl, zn]
     refine hK _ _ ?_
     refine zj ?_
     obtain rfl := Option.some.inj h
     exact retA
   · rw [if_pos hc7] at h
     have t10 := eq_true hc7
     refine zi ?_
     refine hZ6 _ _ ?_
     have f11 := zm4 (T := tab) (src := 35) (dst := 9) rfl rfl rfl rfl rfl rfl r5.1
     refine rg tok [1, 5, 8] fun K hK => ?_
     simp only [go_sem, rL, rD, rE, rA, t10, f11]
     refine hK _ _ ?_
     refine zk1 (fun L τ => ∃ (m3_12 : GPacket), L = ([(5, .op 2 0 0), (8, .op 3 0 0)] : List (Nat × AV)) ∧ τ = ([.cells 0 [.str [109], .ds true [] 0 true, .ds true [] 0 true], .cells 0 [.str [99], .str [109], .str [109]], .cells 0 [.str [97], .os true 3 0 0 0 1 true, .ds true [] 0 true, .os true 3 1 0 0 1 true], .cells 0 [.int .i64 m3_12.fKind, .int .i64 m3_12.fFrom, .int .i64 m3_12.fTo, .int .i64 m3_12.fID, .int .i64 m3_12.fVersion, .str m3_12.fMethod, .int .i64 m3_12.fErr, .str m3_12.fBody]] : Store) ∧ law25_ProxyUnknown.j13 m3_12 = some r) ?_ ?_
     · refine rg tok [5, 8, 31] fun K hK => ?_
       simp only [go_sem, rL, rE]
       refine hK _ _ ?_
       refine zx (b := a1) rfl (fun hc17 => ?_) (fun hc17 => ?_)
       · rw [if_pos hc17] at h
         refine rgE tok [5, 8] fun K hK => ?_
         simp only [go_sem, rL, rD, rE, rA]
         refine hK _ _ ?_
         exact ⟨_, _, ⟨(⟨4, 1, 0, 7, 2, [99], 0, r5.1⟩ : GPacket), rfl, rfl, h⟩, (.t [1, 2, 3, 4] false)⟩
       · rw [if_F hc17] at h
         refine zi ?_
         exact ⟨_, _, ⟨(⟨3, 1, 0, 7, 2, [99], 0, r5.1⟩ : GPacket), rfl, rfl, h⟩, (.t [1, 2, 3, 4] false)⟩
     rintro _ _ ⟨m3_12, rfl, rfl, h⟩
     unfold law25_ProxyUnknown.j13 at h
     refine rc [8, 9, 10] fun K hK => ?_
     obtain ⟨r14, hr14, h⟩ := bind_some h
     refine za tok 2 ?_
     simp only [go_sem, rL, rD, rE, rA]
     refine zh rfl rfl rfl (proxy_Pass.ok (⟨[97], [(⟨[109], ([] : List GField), ([] : List Int)⟩ : GMessage)], ([] : List GEnumeration), [(⟨[99], [109], [109]⟩ : GMethod)]⟩ : GSchema) m3_12 r14 hr14).ld ?_
     rintro _ _ ⟨rfl, rfl⟩
     refine za tok 6 ?_
     simp only [go_sem, rL, rD, rE, rA, encGPacket]
     refine zb ?_
     simp only [zd, upd, rE, reduceIte, zl, zn]
     refine hK _ _ ?_
     refine rc [4] fun K hK => ?_
     refine za tok 2 ?_
     simp only [go_sem, rL, rE]
     refine zp 4 (fun L τ => L = ([(44, .bool (r14.2 && (decide (r14.1.fKind = m3_12.fKind) && (decide (r14.1.fFrom = m3_12.fFrom) && (decide (r14.1.fTo = m3_12.fTo) && (decide (r14.1.fID = m3_12.fID) && (decide (r14.1.fVersion = m3_12.fVersion) && (decide (r14.1.fMethod = m3_12.fMethod) && (decide (r14.1.fErr = m3_12.fErr) && decide (r14.1.fBody = m3_12.fBody))))))))))] : List (Nat × AV)) ∧ τ = ([.cells 0 [.str [109], .ds true [] 0 true, .ds true [] 0 true], .cells 0 [.str [99], .str [109], .str [109]], .cells 0 [.str [97], .os true 3 0 0 0 1 true, .ds true [] 0 true, .os true 3 1 0 0 1 true], .cells 0 [.int .i64 m3_12.fKind, .int .i64 m3_12.fFrom, .int .i64 m3_12.fTo, .int .i64 m3_12.fID, .int .i64 m3_12.fVersion, .str m3_12.fMethod, .int .i64 m3_12.fErr, .str m3_12.fBody], .cells 0 [.int .i64 r14.1.fKind, .int .i64 r14.1.fFrom, .int .i64 r14.1.fTo, .int .i64 r14.1.fID, .int .i64 r14.1.fVersion, .str r14.1.fMethod, .int .i64 r14.1.fErr, .str r14.1.fBody]] : Store)) ?_ ?_
     · refine zI (b := r14.2) 40 rfl (fun hg40 => ?_) (fun hg40 => ?_)
       · refine za tok 4 ?_
         simp only [go_sem, rL, rD, rE, rA, evEqA, ceqL, ceq]
         refine zb ⟨rfl, _, _, ⟨rfl, rfl⟩, .b hg40⟩
       · refine za tok 4 ?_
         simp only [go_sem, rL, rE]
         refine zb ⟨rfl, _, _, ⟨rfl, rfl⟩, .b hg40⟩
     rintro _ _ ⟨rfl, rfl⟩
     refine za tok 1 ?_
     simp only [go_sem, rL]
     obtain ⟨c15, hc15, h⟩ := bind_some h
     refine zp 2 (fun L τ => L = ([(47, .bool c15)] : List (Nat × AV)) ∧ τ = ([.cells 0 [.str [109], .ds true [] 0 true, .ds true [] 0 true], .cells 0 [.str [99], .str [109], .str [109]], .cells 0 [.str [97], .os true 3 0 0 0 1 true, .ds true [] 0 true, .os true 3 1 0 0 1 true], .cells 0 [.int .i64 m3_12.fKind, .int .i64 m3_12.fFrom, .int .i64 m3_12.fTo, .int .i64 m3_12.fID, .int .i64 m3_12.fVersion, .str m3_12.fMethod, .int .i64 m3_12.fErr, .str m3_12.fBody], .cells 0 [.int .i64 r14.1.fKind, .int .i64 r14.1.fFrom, .int .i64 r14.1.fTo, .int .i64 r14.1.fID, .int .i64 r14.1.fVersion, .str r14.1.fMethod, .int .i64 r14.1.fErr, .str r14.1.fBody]] : Store)) ?_ ?_
     · refine zI (b := (r14.2 && (decide (r14.1.fKind = m3_12.fKind) && (decide (r14.1.fFrom = m3_12.fFrom) && (decide (r14.1.fTo = m3_12.fTo) && (decide (r14.1.fID = m3_12.fID) && (decide (r14.1.fVersion = m3_12.fVersion) && (decide (r14.1.fMethod = m3_12.fMethod) && (decide (r14.1.fErr = m3_12.fErr) && decide (r14.1.fBody = m3_12.fBody)))))))))) 45 rfl (fun hg45 => ?_) (fun hg45 => ?_)
       · rw [if_pos hg45] at hc15
         obtain ⟨r16, hr16, hc15⟩ := bind_some hc15
         refine zh rfl rfl rfl (law25_awake.ev  r16 hr16 _) ?_
         rintro _ _ ⟨rfl, rfl⟩
         refine za tok 1 ?_
         simp only [go_sem, rL, rE]
         obtain rfl := Option.some.inj hc15
         refine zb ⟨rfl, _, _, ⟨rfl, rfl⟩, .b hg45⟩
       · rw [if_F hg45] at hc15
         refine za tok 2 ?_
         simp only [go_sem, rL, rE]
         obtain rfl := Option.some.inj hc15
         refine zb ⟨rfl, _, _, ⟨rfl, rfl⟩, .b hg45⟩
     rintro _ _ ⟨rfl, rfl⟩
     refine za tok 1 ?_
     simp only [go_sem, rL]
     refine zb ?_
     simp only [zd, upd, rE, reduceIte, zl, zn]
     refine hK _ _ ?_
     refine zj ?_
     obtain rfl := Option.some.inj h
     exact retA
end Go.Proofs.YtaddlmlpeghonaaDoor
end
section
set_option maxRecDepth 4000
namespace Go.Proofs.YtaddlmlpeghonaaDoor
open AM
def vb (n : Nat) : List UInt8 := if h : n < 128 then [UInt8.ofNat n] else UInt8.ofNat (n % 128 + 128) :: vb (n / 128)
termination_by n
decreasing_by omega
theorem vb_lt {n : Nat} (h : n < 128) : vb n = [UInt8.ofNat n] := by rw [vb, dif_pos h]
theorem vb_ge {n : Nat} (h : ¬ n < 128) : vb n = UInt8.ofNat (n % 128 + 128) :: vb (n / 128) := by rw [vb, dif_neg h]
theorem vb_pos (n : Nat) : 0 < (vb n).length := by
 by_cases h : n < 128
 · rw [vb_lt h]; exact Nat.one_pos
 · rw [vb_ge h, lC]; omega
theorem vb_len : ∀ (k n : Nat), n < 2 ^ (7 * (k + 1)) → (vb n).length ≤ k + 1
 | 0, n, h => by rw [vb_lt (by simpa using h)]; exact nR _
 | k + 1, n, h => by
  by_cases h1 : n < 128
  · rw [vb_lt h1, lC, lZ]; omega
  · rw [vb_ge h1, lC]
    have := vb_len k (n / 128) (by
     have e : 2 ^ (7 * (k + 1 + 1)) = 128 * 2 ^ (7 * (k + 1)) := by rw [show 7 * (k + 1 + 1) = 7 + 7 * (k + 1) by omega, Nat.pow_add]
     rw [e] at h
     exact Nat.div_lt_of_lt_mul h)
    omega
theorem zf2 {n : Nat} (h : n < 2 ^ 64) : (vb n).length ≤ 10 := vb_len 9 n (Nat.lt_of_lt_of_le h (by decide))
theorem zy4 {p : Prop} [Decidable p] (h : p) : grd p = some () := if_pos h
theorem zp1 {n b : Nat} (h : n * b ≤ 140737488355328) : room n b = some () := if_pos h
theorem u64w {n : Nat} (h : n < 2 ^ 64) : IntKind.u64.wrap (n : Int) = (n : Int) := by rw [IntKind.wrap_u64]; omega
theorem u64i {x : Int} (h : 0 ≤ x) (h' : x < 18446744073709551616) : IntKind.u64.wrap x = x := by rw [IntKind.wrap_u64]; omega
theorem u8w (n : Nat) : IntKind.u8.wrap (n : Int) = ((n % 256 : Nat) : Int) := by
 simp only [IntKind.wrap, IntKind.bits, IntKind.signed, Bool.false_and]
 simp
theorem zF4 (n : Nat) (h : n < 256) : (UInt8.ofNat n).toNat = n := by
 rw [UInt8.toNat_ofNat']; omega
theorem or128 : ∀ m : Fin 256, (BitVec.ofInt 8 ((m.val : Nat) : Int) ||| BitVec.ofInt 8 128).toNat = m.val % 128 + 128 := by decide
theorem and127 : ∀ m : Fin 256, (BitVec.ofInt 8 ((m.val : Nat) : Int) &&& ~~~(BitVec.ofInt 8 128)).toNat = m.val % 128 := by decide
theorem moreByte (n : Nat) : UInt8.ofNat (Int.toNat (IntKind.u8.wrap ((BitVec.toNat (BitVec.ofInt 8 (IntKind.u8.wrap (n : Int)) ||| BitVec.ofInt 8 128) : Nat) : Int))) = UInt8.ofNat (n % 128 + 128) := by
 have h := or128 ⟨n % 256, Nat.mod_lt _ (by decide)⟩
 simp only at h
 rw [u8w n, h, u8w (n % 256 % 128 + 128), Int.toNat_natCast]
 congr 1
 have := Nat.mod_mod_of_dvd n (show 128 ∣ 256 by decide)
 omega
theorem lastByte (n : Nat) (h : n < 128) : UInt8.ofNat (Int.toNat (IntKind.u8.wrap (n : Int))) = UInt8.ofNat n := by
 rw [u8w, Int.toNat_natCast]; congr 1; omega
theorem shr7 (n : Nat) : Int.fdiv (n : Int) (2 ^ (min (Int.toNat 7) 64)) = ((n / 128 : Nat) : Int) := by
 rw [show ((2 : Int) ^ (min (Int.toNat 7) 64)) = 128 from by decide, Int.fdiv_eq_ediv_of_nonneg _ (by decide)]
 omega
theorem vint_Put_l : ∀ (k n : Nat) (l : List UInt8), n < 2 ^ (7 * k) → l.length + k ≤ 140737488355328 → vint_Put.l9 k l (n : Int) = some (l ++ vb n) ∨ k = 0
 | 0, _, _, _, _ => Or.inr rfl
 | k + 1, n, l, h, hl => by
  left
  by_cases h1 : n < 128
  · rw [vint_Put.l9, if_neg (by omega), zp1 (by omega), bS, lastByte n h1, vb_lt h1]
  · rw [vint_Put.l9, if_pos (by omega), zp1 (by omega), bS, moreByte, shr7, vb_ge h1]
    have hk : n / 128 < 2 ^ (7 * k) := by
     have e : 2 ^ (7 * (k + 1)) = 128 * 2 ^ (7 * k) := by rw [show 7 * (k + 1) = 7 + 7 * k by omega, Nat.pow_add]
     rw [e] at h; exact Nat.div_lt_of_lt_mul h
    rcases vint_Put_l k (n / 128) (l ++ [UInt8.ofNat (n % 128 + 128)]) hk (by rw [lP, List.length_singleton]; omega) with e | e
    · rw [e, aA]; rfl
    · exfalso; subst e; simp at hk; omega
theorem vint_Put_m : ∀ (k j n : Nat) (l r : List UInt8), vint_Put.l9 k l (n : Int) = some r → vint_Put.l9 (k + j) l (n : Int) = some r
 | 0, _, _, _, _, h => by cases h
 | k + 1, j, n, l, r, h => by
  rw [Nat.succ_add_eq_add_succ, Nat.add_succ]
  by_cases h1 : (128 : Int) ≤ (n : Int)
  · rw [vint_Put.l9, if_pos h1] at h ⊢
    cases hr : room (lN l + 1) 1 with
    | none => rw [hr] at h; cases h
    | some u =>
     rw [hr, bS, shr7] at h
     rw [bS, shr7]; exact vint_Put_m k j _ _ _ h
  · rw [vint_Put.l9, if_neg h1] at h ⊢; exact h
theorem zP3 (a : List UInt8) {n : Nat} (h : n < 2 ^ 64) (ha : a.length ≤ 140737488355000) : vint_Put a (n : Int) = some (a ++ vb n) := by
 by_cases h1 : n < 128
 · rw [vint_Put, if_neg (by omega), zp1 (by omega), bS, lastByte n h1, vb_lt h1]
 · rw [vint_Put, if_pos (by omega), zp1 (by omega), bS, moreByte, shr7, vb_ge h1]
   rcases vint_Put_l 10 (n / 128) (a ++ [UInt8.ofNat (n % 128 + 128)]) (by omega) (by rw [lP, List.length_singleton]; omega) with e | e
   · have := vint_Put_m 10 999999999999999999990 _ _ _ e
     rw [show 10 + 999999999999999999990 = rounds from rfl] at this
     rw [this, aA]; rfl
   · cases e
theorem orAdd {i acc d : Nat} (h : acc < 2 ^ i) : acc ||| d * 2 ^ i = acc + d * 2 ^ i := by
 rw [Nat.or_comm, Nat.mul_comm, ← Nat.two_pow_add_eq_or_of_lt h]; omega
theorem bv64 {n : Nat} (h : n < 2 ^ 64) : (BitVec.ofInt 64 (n : Int)).toNat = n := by
 rw [BitVec.ofInt_natCast, BitVec.toNat_ofNat]; exact Nat.mod_eq_of_lt h
theorem stepv {acc i : Nat} {y : UInt8} (hi : i ≤ 9) (ha : acc < 2 ^ (7 * i)) (h9 : i = 9 → y.toNat ≤ 1) : IntKind.u64.wrap ((BitVec.toNat (BitVec.ofInt 64 (acc : Int) ||| BitVec.ofInt 64 (IntKind.u64.wrap ((IntKind.u64.wrap (IntKind.u8.wrap ((BitVec.toNat (BitVec.ofInt 8 (y.toNat : Int) &&& ~~~(BitVec.ofInt 8 128)) : Nat) : Int))) * 2 ^ (min (Int.toNat (IntKind.i64.wrap (7 * (i : Int)))) 64)))) : Nat) : Int) = ((acc + (y.toNat % 128) * 2 ^ (7 * i) : Nat) : Int) ∧ acc + (y.toNat % 128) * 2 ^ (7 * i) < 2 ^ 64 ∧ (i < 9 → acc + (y.toNat % 128) * 2 ^ (7 * i) < 2 ^ (7 * (i + 1))) := by
 have hy : y.toNat < 256 := y.toNat_lt
 have h := and127 ⟨y.toNat, hy⟩
 simp only at h
 have e : IntKind.i64.wrap (7 * (i : Int)) = ((7 * i : Nat) : Int) := by rw [zW (by omega) (by omega)]; omega
 have hm : min (7 * i) 64 = 7 * i := by omega
 have hd : y.toNat % 128 < 128 := Nat.mod_lt _ (by decide)
 have hp : 2 ^ (7 * (i + 1)) = 128 * 2 ^ (7 * i) := by rw [show 7 * (i + 1) = 7 + 7 * i by omega, Nat.pow_add]
 have hs : i < 9 → acc + (y.toNat % 128) * 2 ^ (7 * i) < 2 ^ (7 * (i + 1)) := by
  intro _
  rw [hp]
  have : (y.toNat % 128) * 2 ^ (7 * i) ≤ 127 * 2 ^ (7 * i) := Nat.mul_le_mul_right _ (by omega)
  omega
 have hb : acc + (y.toNat % 128) * 2 ^ (7 * i) < 2 ^ 64 := by
  by_cases h8 : i < 9
  · have := hs h8
    have h2 : 2 ^ (7 * (i + 1)) ≤ 2 ^ 63 := Nat.pow_le_pow_right (by decide) (by omega)
    omega
  · have hi9 : i = 9 := by omega
    have h1 := h9 hi9
    subst hi9
    have : y.toNat % 128 ≤ 1 := by omega
    have h2 : (y.toNat % 128) * 2 ^ (7 * 9) ≤ 1 * 2 ^ (7 * 9) := Nat.mul_le_mul_right _ this
    omega
 refine ⟨?_, hb, hs⟩
 rw [h, u8w, Nat.mod_eq_of_lt (show y.toNat % 128 < 256 by omega), e, Int.toNat_natCast, hm]
 have hc : ((((y.toNat % 128 : Nat) : Int)) * 2 ^ (7 * i)) = (((y.toNat % 128) * 2 ^ (7 * i) : Nat) : Int) := by
  rw [Int.natCast_mul, Int.natCast_pow]; rfl
 have hu : IntKind.u64.wrap ((y.toNat % 128 : Nat) : Int) = ((y.toNat % 128 : Nat) : Int) := u64w (by omega)
 rw [hu, hc, u64w (n := y.toNat % 128 * 2 ^ (7 * i)) (by omega), BitVec.toNat_or, bv64 (by omega), bv64 (by omega), orAdd ha, u64w hb]
theorem za5 (a : Nat) (hA : a ≤ 4611686018427387904) : ∀ (q post : List UInt8) (v i acc : Nat), q = vb v ++ post → i ≤ 9 → acc < 2 ^ (7 * i) → v * 2 ^ (7 * i) < 2 ^ 64 → (0 < i → v ≠ 0) →
 vint_Get.l12 (a : Int) q (i : Int) (acc : Int) = some (((acc + v * 2 ^ (7 * i) : Nat) : Int), ((a + i + (vb v).length : Nat) : Int), 0)
 | [], post, v, i, acc, h, _, _, _, _ => by
  have := vb_pos v
  have h2 := congrArg lN h
  rw [lP, lZ] at h2; omega
 | y :: q, post, v, i, acc, h, hi, ha, hv, h0 => by
  by_cases h1 : v < 128
  · rw [vb_lt h1] at h ⊢
    obtain ⟨rfl, rfl⟩ : y = UInt8.ofNat v ∧ q = post := by injection h with h2 h3; exact ⟨h2, h3⟩
    have hy : (UInt8.ofNat v).toNat = v := zF4 v (by omega)
    have h9 : i = 9 → v ≤ 1 := by
     intro e; subst e
     apply Nat.le_of_not_lt; intro hc
     have : 2 * 2 ^ (7 * 9) ≤ v * 2 ^ (7 * 9) := Nat.mul_le_mul_right _ hc
     omega
    have st := (stepv (y := UInt8.ofNat v) hi ha (by rw [hy]; exact h9)).1
    have hw1 : IntKind.i64.wrap (7 * (i : Int)) = 7 * (i : Int) := zW (by omega) (by omega)
    rw [vint_Get.l12, st, hy]
    rw [if_neg (by simp only [Bool.and_eq_true, decide_eq_true_eq, not_and]; intro e; have := h9 (by omega); omega), zy4 (by rw [zW (by omega) (by omega)]; omega), bS, if_neg (by omega), if_neg (by simp only [Bool.and_eq_true, decide_eq_true_eq, not_and]; intro e e2; exact h0 (by omega) (by omega))]
    rw [Nat.mod_eq_of_lt h1, zW (x := (a : Int) + (i : Int)) (by omega) (by omega), zW (x := (a : Int) + (i : Int) + 1) (by omega) (by omega), List.length_singleton]
    simp only [Int.natCast_add, Int.natCast_one]
  · rw [vb_ge h1] at h ⊢
    obtain ⟨rfl, rfl⟩ : y = UInt8.ofNat (v % 128 + 128) ∧ q = vb (v / 128) ++ post := by injection h with h2 h3; exact ⟨h2, h3⟩
    have hy : (UInt8.ofNat (v % 128 + 128)).toNat = v % 128 + 128 := zF4 _ (by omega)
    have hi8 : i < 9 := by
     apply Nat.lt_of_not_le; intro hc
     have : i = 9 := by omega
     subst this
     have : 128 * 2 ^ (7 * 9) ≤ v * 2 ^ (7 * 9) := Nat.mul_le_mul_right _ (by omega)
     omega
    obtain ⟨st, sb, sn⟩ := stepv (y := UInt8.ofNat (v % 128 + 128)) hi ha (by intro e; omega)
    rw [vint_Get.l12, st, hy, if_neg (by simp only [Bool.and_eq_true, decide_eq_true_eq, not_and]; intro e; omega), zy4 (by rw [zW (by omega) (by omega)]; omega), bS, if_pos (by omega)]
    rw [hy] at sn
    have hm : (v % 128 + 128) % 128 = v % 128 := by omega
    rw [hm] at sn ⊢
    have hp : 2 ^ (7 * (i + 1)) = 128 * 2 ^ (7 * i) := by rw [show 7 * (i + 1) = 7 + 7 * i by omega, Nat.pow_add]
    have hvd : v = 128 * (v / 128) + v % 128 := (Nat.div_add_mod v 128).symm
    have hmul : v * 2 ^ (7 * i) = (v / 128) * 2 ^ (7 * (i + 1)) + (v % 128) * 2 ^ (7 * i) := by
     rw [hp]
     calc v * 2 ^ (7 * i) = (128 * (v / 128) + v % 128) * 2 ^ (7 * i) := by rw [← hvd]
      _ = _ := by rw [Nat.add_mul, Nat.mul_comm 128, Nat.mul_assoc]
    have ih := za5 a hA (vb (v / 128) ++ post) post (v / 128) (i + 1) (acc + v % 128 * 2 ^ (7 * i)) rfl (by omega) (sn hi8) (by rw [hmul] at hv; omega) (by intro _; omega)
    rw [show ((i : Int) + 1) = ((i + 1 : Nat) : Int) by omega, ih, hmul, lC]
    congr 2
    · congr 1; omega
    · congr 2; omega
theorem zZ4 (a : Nat) (hA : a ≤ 4611686018427387904) : ∀ (q : List UInt8) (i acc : Nat), i + q.length ≤ 10 → acc < 2 ^ (7 * i) → ∃ r, vint_Get.l12 (a : Int) q (i : Int) (acc : Int) = some r ∧
 (r.2.2 = 0 → ∃ v post, q = vb v ++ post ∧ v * 2 ^ (7 * i) < 2 ^ 64 ∧ (0 < i → v ≠ 0)) ∧ 0 ≤ r.2.2
 | [], i, acc, _, _ => ⟨_, rfl, (by intro h; cases h), by decide⟩
 | y :: q, i, acc, hl, ha => by
  rw [lC] at hl
  rw [vint_Get.l12]
  by_cases h9 : ((decide ((i : Int) = 9)) && (decide (1 < (y.toNat : Int)))) = true
  · rw [if_pos h9]; exact ⟨_, rfl, (by intro h; cases h), by decide⟩
  · rw [if_neg h9]
    have h9' : i = 9 → y.toNat ≤ 1 := by
     intro e
     simp only [Bool.and_eq_true, decide_eq_true_eq, not_and] at h9
     have := h9 (by omega); omega
    obtain ⟨st, sb, sn⟩ := stepv (y := y) (show i ≤ 9 by omega) ha h9'
    rw [st, zy4 (by rw [zW (by omega) (by omega)]; omega), bS]
    have hy : y.toNat < 256 := y.toNat_lt
    by_cases h1 : (128 : Int) ≤ (y.toNat : Int)
    · rw [if_pos h1]
      have hi8 : i < 9 := by
       apply Nat.lt_of_not_le; intro hc
       have := h9' (by omega); omega
      obtain ⟨r, e, hr, h0⟩ := zZ4 a hA q (i + 1) (acc + y.toNat % 128 * 2 ^ (7 * i)) (by omega) (sn hi8)
      rw [show ((i : Int) + 1) = ((i + 1 : Nat) : Int) by omega]
      refine ⟨r, e, ?_, h0⟩
      intro hz
      obtain ⟨v, post, hq, hv, hn⟩ := hr hz
      have hp : 2 ^ (7 * (i + 1)) = 128 * 2 ^ (7 * i) := by rw [show 7 * (i + 1) = 7 + 7 * i by omega, Nat.pow_add]
      have hvn := hn (by omega)
      have hw : ¬ (v * 128 + y.toNat % 128) < 128 := by omega
      refine ⟨v * 128 + y.toNat % 128, post, ?_, ?_, by intro _; omega⟩
      · rw [vb_ge hw, show (v * 128 + y.toNat % 128) % 128 + 128 = y.toNat by omega, show (v * 128 + y.toNat % 128) / 128 = v by omega, UInt8.ofNat_toNat, hq]; rfl
      · rw [hp] at hv
        have hmul : (v * 128 + y.toNat % 128) * 2 ^ (7 * i) = v * (128 * 2 ^ (7 * i)) + y.toNat % 128 * 2 ^ (7 * i) := by rw [Nat.add_mul, Nat.mul_assoc]
        rw [hmul]
        by_cases hi7 : i < 9
        · have hd : y.toNat % 128 * 2 ^ (7 * i) < 128 * 2 ^ (7 * i) := Nat.mul_lt_mul_of_pos_right (by omega) (Nat.pow_pos (by decide))
          have h64 : 128 * 2 ^ (7 * i) ∣ 2 ^ 64 := by rw [← hp]; exact Nat.pow_dvd_pow 2 (by omega)
          obtain ⟨c, hc⟩ := h64
          rw [hc] at hv ⊢
          have hvc : v < c := by
           apply Nat.lt_of_not_le; intro hle
           have := Nat.mul_le_mul_right (128 * 2 ^ (7 * i)) hle
           rw [Nat.mul_comm c] at this; omega
          have h3 : (v + 1) * (128 * 2 ^ (7 * i)) ≤ c * (128 * 2 ^ (7 * i)) := Nat.mul_le_mul_right _ hvc
          rw [Nat.add_mul, Nat.one_mul] at h3
          rw [Nat.mul_comm (128 * 2 ^ (7 * i)) c]; omega
        · omega
    · rw [if_neg h1]
      by_cases h2 : ((decide ((y.toNat : Int) = 0)) && (decide (0 < (i : Int)))) = true
      · rw [if_pos h2]; exact ⟨_, rfl, (by intro h; cases h), by decide⟩
      · rw [if_neg h2]
        refine ⟨_, rfl, ?_, Int.le_refl 0⟩
        intro _
        refine ⟨y.toNat, q, ?_, ?_, ?_⟩
        · rw [vb_lt (by omega), UInt8.ofNat_toNat]; rfl
        · rw [Nat.mod_eq_of_lt (by omega)] at sb; omega
        · intro hi e
          apply h2
          simp only [Bool.and_eq_true, decide_eq_true_eq]; omega
theorem get_head {b : List UInt8} {n : Nat} (hb : b.length ≤ 4096) (hn : n ≤ b.length) : vint_Get b (n : Int) = vint_Get.l12 (n : Int) ((b.drop n).take 10) 0 0 := by
 have e1 : IntKind.i64.wrap ((lN b : Int) - (n : Int)) = ((b.length - n : Nat) : Int) := by rw [zW (by omega) (by omega)]; omega
 rw [vint_Get, if_neg (by simp only [Bool.or_eq_true, decide_eq_true_eq]; omega), e1]
 by_cases h : (10 : Int) < ((b.length - n : Nat) : Int)
 · rw [if_pos h]
   have e2 : IntKind.i64.wrap ((n : Int) + 10) = ((n + 10 : Nat) : Int) := by rw [zW (by omega) (by omega)]; omega
   rw [e2, zy4 (by omega), bS, cutL, Int.toNat_natCast, Int.toNat_natCast, show n + 10 - n = 10 by omega]
 · rw [if_neg h]
   have e2 : IntKind.i64.wrap ((n : Int) + ((b.length - n : Nat) : Int)) = (b.length : Int) := by rw [zW (by omega) (by omega)]; omega
   rw [e2, zy4 (by omega), bS, cutL, Int.toNat_natCast, Int.toNat_natCast, List.take_of_length_le (by rw [List.length_drop]; exact nR _), List.take_of_length_le (by rw [List.length_drop]; omega)]
theorem get_ok {b post : List UInt8} {n v : Nat} (hb : b.length ≤ 4096) (hn : n ≤ b.length) (h : b.drop n = vb v ++ post) (hv : v < 2 ^ 64) : vint_Get b (n : Int) = some ((v : Int), ((n + (vb v).length : Nat) : Int), 0) := by
 have := za5 n (by omega) ((b.drop n).take 10) (post.take (10 - (vb v).length)) v 0 0 (by rw [h, List.take_append, List.take_of_length_le (zf2 hv)]) (by omega) (by decide) (by omega) (by omega)
 rw [get_head hb hn]
 simpa using this
theorem get_inv {b : List UInt8} {n : Nat} (hb : b.length ≤ 4096) (hn : n ≤ b.length) : ∃ r, vint_Get b (n : Int) = some r ∧ (r.2.2 = 0 → ∃ v post, b.drop n = vb v ++ post ∧ v < 2 ^ 64 ∧ r = ((v : Int), ((n + (vb v).length : Nat) : Int), 0)) ∧ 0 ≤ r.2.2 := by
 obtain ⟨r, e, hr, h0⟩ := zZ4 n (by omega) ((b.drop n).take 10) 0 0 (by rw [List.length_take]; omega) (by decide)
 rw [get_head hb hn]
 refine ⟨r, e, ?_, h0⟩
 intro hz
 obtain ⟨v, post, hq, hv, _⟩ := hr hz
 have hv' : v < 2 ^ 64 := by omega
 have hd : b.drop n = vb v ++ (post ++ (b.drop n).drop 10) := by
  rw [← aA, ← hq, List.take_append_drop]
 refine ⟨v, _, hd, hv', ?_⟩
 have := get_ok hb hn hd hv'
 rw [get_head hb hn] at this
 exact Option.some.inj (e.symm.trans this)
end Go.Proofs.YtaddlmlpeghonaaDoor
end
section
set_option maxRecDepth 4000
namespace Go.Proofs.YtaddlmlpeghonaaDoor
open AM
def In64 (n : Int) : Prop := -9223372036854775808 ≤ n ∧ n < 9223372036854775808
def zg (n : Int) : Nat := if 0 ≤ n then (2 * n).toNat else (-2 * n - 1).toNat
def zu (v : Nat) : Int := if v % 2 = 0 then ((v / 2 : Nat) : Int) else -((v / 2 : Nat) : Int) - 1
theorem zg_lt {n : Int} (h : In64 n) : zg n < 2 ^ 64 := by
 unfold zg; obtain ⟨h1, h2⟩ := h; split <;> omega
theorem zu_zg (n : Int) : zu (zg n) = n := by
 unfold zg zu; split <;> split <;> omega
theorem zg_zu (v : Nat) : zg (zu v) = v := by
 unfold zg zu; split <;> split <;> omega
theorem zu_in {v : Nat} (h : v < 2 ^ 64) : In64 (zu v) := by
 unfold zu In64; split <;> omega
theorem bvm1 : BitVec.ofInt 64 (-1) = BitVec.allOnes 64 := by decide
theorem bv0 : BitVec.ofInt 64 0 = 0#64 := by decide
theorem fdiv2 (n : Int) (k : Nat) : Int.fdiv n (2 ^ k) = n / (2 ^ k) := Int.fdiv_eq_ediv_of_nonneg _ (Int.le_of_lt (Int.pow_pos (by decide)))
theorem vint_Zig_eq {n : Int} (h : In64 n) : vint_Zig n = (zg n : Int) := by
 obtain ⟨h1, h2⟩ := h
 unfold vint_Zig zg
 rw [show min (Int.toNat 1) 64 = 1 from rfl, show min (Int.toNat 63) 64 = 63 from rfl, fdiv2]
 by_cases h0 : 0 ≤ n
 · have e : n / 2 ^ 63 = 0 := Int.ediv_eq_zero_of_lt h0 (by omega)
   rw [if_pos h0, e, show IntKind.u64.wrap 0 = 0 from by rw [IntKind.wrap_u64]; rfl, bv0, BitVec.xor_zero]
   have e2 : IntKind.u64.wrap (IntKind.u64.wrap n * 2 ^ 1) = (((2 * n).toNat : Nat) : Int) := by rw [IntKind.wrap_u64, IntKind.wrap_u64]; omega
   rw [e2, bv64 (by omega), u64w (by omega)]
 · have e : n / 2 ^ 63 = -1 := by omega
   have e1 : IntKind.u64.wrap (-1) = 18446744073709551615 := by rw [IntKind.wrap_u64]; rfl
   have e3 : BitVec.ofInt 64 18446744073709551615 = BitVec.allOnes 64 := by decide
   rw [if_neg h0, e, e1, e3, BitVec.xor_allOnes, BitVec.toNat_not]
   have e2 : IntKind.u64.wrap (IntKind.u64.wrap n * 2 ^ 1) = (((2 * n + 18446744073709551616).toNat : Nat) : Int) := by rw [IntKind.wrap_u64, IntKind.wrap_u64]; omega
   rw [e2, bv64 (by omega), u64w (by omega)]
   omega
theorem vint_Zag_eq {v : Nat} (h : v < 2 ^ 64) : vint_Zag (v : Int) = zu v := by
 unfold vint_Zag zu
 rw [show min (Int.toNat 1) 64 = 1 from rfl, fdiv2]
 have ea : (BitVec.ofInt 64 (v : Int) &&& BitVec.ofInt 64 1).toNat = v % 2 := by
  rw [BitVec.toNat_and, bv64 h, show (BitVec.ofInt 64 1).toNat = 1 from by decide, Nat.and_one_is_mod]
 have e1 : IntKind.i64.wrap ((v : Int) / 2 ^ 1) = ((v / 2 : Nat) : Int) := by rw [zW (by omega) (by omega)]; omega
 rw [ea, e1, u64w (n := v % 2) (by omega)]
 by_cases h0 : v % 2 = 0
 · rw [if_pos h0, h0]
   have e2 : IntKind.i64.wrap (0 - IntKind.i64.wrap ((0 : Nat) : Int)) = 0 := by decide
   rw [e2, bv0, BitVec.xor_zero, bv64 (by omega), zW (by omega) (by omega)]
 · have h1 : v % 2 = 1 := by omega
   rw [if_neg h0, h1]
   have e2 : IntKind.i64.wrap (0 - IntKind.i64.wrap ((1 : Nat) : Int)) = -1 := by decide
   rw [e2, bvm1, BitVec.xor_allOnes, BitVec.toNat_not, bv64 (by omega), IntKind.wrap_i64]
   omega
def zb2 (r : GRaw) : Prop := wire_Check r = true ∧ In64 r.fN
def keyN (r : GRaw) : Nat := (2 * r.fTag + r.fWire).toNat
def rawB (r : GRaw) : List UInt8 := vb (keyN r) ++ (if r.fWire = 0 then vb (zg r.fN) else vb r.fB.length ++ r.fB)
def zY (l : List GRaw) : List UInt8 := l.flatMap rawB
theorem zE1 {r : GRaw} (h : wire_Check r = true) : 1 ≤ r.fTag ∧ r.fTag ≤ 500 ∧ ((r.fWire = 0 ∧ r.fB = []) ∨ (r.fWire = 1 ∧ r.fN = 0 ∧ r.fB.length ≤ 4096)) := by
 unfold wire_Check at h
 split at h
 · cases h
 · rename_i h1
   simp only [Bool.or_eq_true, decide_eq_true_eq, not_or] at h1
   refine ⟨by omega, by omega, ?_⟩
   split at h
   · left; exact ⟨‹_›, by simpa using h⟩
   · split at h
     · right
       simp only [Bool.and_eq_true, decide_eq_true_eq] at h
       exact ⟨‹_›, h.1, by omega⟩
     · cases h
theorem check_num {t n : Int} (h1 : 1 ≤ t) (h2 : t ≤ 500) : wire_Check ⟨t, 0, n, []⟩ = true := by
 unfold wire_Check
 rw [if_neg (by simp only [Bool.or_eq_true, decide_eq_true_eq]; omega)]; rfl
theorem zA4 {t : Int} {s : List UInt8} (h1 : 1 ≤ t) (h2 : t ≤ 500) (h3 : s.length ≤ 4096) : wire_Check ⟨t, 1, 0, s⟩ = true := by
 unfold wire_Check
 rw [if_neg (by simp only [Bool.or_eq_true, decide_eq_true_eq]; omega)]
 simp only [decide_true, Bool.true_and]
 rw [if_neg (by decide), if_pos trivial]; exact decide_eq_true (by omega)
theorem rawB_pos (r : GRaw) : 2 ≤ (rawB r).length := by
 unfold rawB
 have h1 := vb_pos (keyN r)
 have h2 := vb_pos (zg r.fN)
 have h3 := vb_pos r.fB.length
 split <;> simp only [lP] <;> omega
theorem rawB_le {r : GRaw} (h : zb2 r) : (rawB r).length ≤ 4116 := by
 obtain ⟨hc, hn⟩ := h
 obtain ⟨h1, h2, h3⟩ := zE1 hc
 unfold rawB keyN
 have k1 : (vb (2 * r.fTag + r.fWire).toNat).length ≤ 10 := zf2 (by omega)
 have k2 : (vb (zg r.fN)).length ≤ 10 := zf2 (zg_lt hn)
 rcases h3 with ⟨h3, h4⟩ | ⟨h3, h4, h5⟩
 · rw [if_pos h3, lP]; omega
 · have k3 : (vb r.fB.length).length ≤ 10 := zf2 (by omega)
   rw [if_neg (by omega), lP, lP]; omega
theorem wire_Put_eq {a : List UInt8} {r : GRaw} (h : zb2 r) (ha : a.length ≤ 1000000) : wire_Put a r = some (a ++ rawB r, true) := by
 obtain ⟨hc, hn⟩ := h
 obtain ⟨h1, h2, h3⟩ := zE1 hc
 unfold wire_Put bnd
 rw [hc]; simp only []
 have ek : IntKind.u64.wrap (IntKind.i64.wrap ((IntKind.i64.wrap (2 * r.fTag)) + r.fWire)) = ((keyN r : Nat) : Int) := by
  rw [zW (x := 2 * r.fTag) (by omega) (by omega), zW (by omega) (by omega), u64i (by omega) (by omega), keyN]; omega
 have k1 : keyN r < 2 ^ 64 := by unfold keyN; omega
 have kl := zf2 k1
 rw [if_neg (by decide), ek, zP3 a k1 (by omega), bS]
 rcases h3 with ⟨h3, h4⟩ | ⟨h3, h4, h5⟩
 · rw [if_pos h3, vint_Zig_eq hn, zP3 _ (zg_lt hn) (by rw [lP]; omega), bS, rawB, if_pos h3, aA]
 · have hb := zf2 (n := r.fB.length) (by omega)
   rw [if_neg (by omega), u64w (by omega), zP3 _ (by omega) (by rw [lP]; omega), bS, zp1 (by simp only [lP]; omega), bS, rawB, if_neg (by omega)]
   simp only [aA]
theorem putAll_l11 : ∀ (q : List GRaw) (x : Int) (acc : List UInt8), (∀ r ∈ q, zb2 r) → acc.length ≤ 4096 → wire_PutAll.l11 q x acc = some (if 4096 < (acc ++ zY q).length then ([], 4) else (acc ++ zY q, 0))
 | [], x, acc, _, ha => by
  rw [wire_PutAll.l11, zY, fZ, aN, if_neg (by omega)]
 | r :: q, x, acc, h, ha => by
  have hr := h r (mS ..)
  rw [wire_PutAll.l11, wire_Put_eq hr (by omega), bS]; dsimp only
  have e : acc ++ zY (r :: q) = (acc ++ rawB r) ++ zY q := by rw [zY, fC, aA]; rfl
  rw [e]
  by_cases h1 : 4096 < (acc ++ rawB r).length
  · rw [if_pos (by omega), if_pos (by rw [lP]; omega)]
  · rw [if_neg (by omega), putAll_l11 q (x + 1) _ (fun s hs => h s (mO _ hs)) (by omega)]
theorem putAll_l4 (a : List GRaw) : ∀ (q : List GRaw) (x : Int), wire_PutAll.l4 a q x = if q.all wire_Check then wire_PutAll.l11 a 0 [] else some ([], 1)
 | [], x => by rw [wire_PutAll.l4]; rfl
 | r :: q, x => by
  rw [wire_PutAll.l4, bnd, List.all_cons]
  by_cases h : wire_Check r = true
  · rw [h, if_neg (by decide), putAll_l4 a q]; rfl
  · rw [if_pos (by simpa using h), if_neg (by rw [Bool.and_eq_true]; exact fun hh => h hh.1)]
theorem putAll_eq {l : List GRaw} (h : ∀ r ∈ l, In64 r.fN) : wire_PutAll l = some (if l.all wire_Check then (if 4096 < (zY l).length then ([], 4) else (zY l, 0)) else ([], 1)) := by
 rw [wire_PutAll, putAll_l4]
 by_cases h1 : l.all wire_Check = true
 · rw [if_pos h1, if_pos h1, putAll_l11 l 0 [] (fun r hr => ⟨List.all_eq_true.1 h1 r hr, h r hr⟩) (by decide)]; rfl
 · rw [if_neg h1, if_neg h1]
theorem zv2 {b x post : List UInt8} {n : Nat} (h : b.drop n = x ++ post) : b.drop (n + x.length) = post := by
 rw [← List.drop_drop, h, List.drop_left' rfl]
theorem zF3 {b x post : List UInt8} {n : Nat} (hn : n ≤ b.length) (h : b.drop n = x ++ post) : n + x.length + post.length = b.length := by
 have := congrArg lN h
 rw [List.length_drop, lP] at this; omega
theorem one_ok {b post : List UInt8} {n : Nat} {r : GRaw} (hb : b.length ≤ 4096) (hn : n ≤ b.length) (h : b.drop n = rawB r ++ post) (hr : zb2 r) : wire_one b (n : Int) = some (r, ((n + (rawB r).length : Nat) : Int), 0) := by
 obtain ⟨hc, hN⟩ := hr
 obtain ⟨h1, h2, h3⟩ := zE1 hc
 have k1 : keyN r < 2 ^ 64 := by unfold keyN; omega
 rw [rawB, aA] at h
 have hl := zF3 hn h
 unfold wire_one
 rw [get_ok hb hn h k1, bS]
 have hk : keyN r = (2 * r.fTag + r.fWire).toNat := rfl
 have d1 : ((keyN r : Nat) : Int).tdiv 2 = r.fTag := by rw [Int.tdiv_eq_ediv_of_nonneg (by omega), hk]; rcases h3 with h3 | h3 <;> omega
 have d2 : ((keyN r : Nat) : Int).tmod 2 = r.fWire := by rw [Int.tmod_eq_emod_of_nonneg (by omega), hk]; rcases h3 with h3 | h3 <;> omega
 simp only [d1, d2]
 rw [if_pos trivial, if_neg (by rw [u64i (by omega) (by omega)]; simp only [Bool.or_eq_true, decide_eq_true_eq]; omega), u64i (x := r.fTag) (by omega) (by omega), zW (x := r.fTag) (by omega) (by omega), zW (x := r.fWire) (by omega) (by omega)]
 have h' := zv2 h
 rcases h3 with ⟨h3, h4⟩ | ⟨h3, h4, h5⟩
 · rw [if_pos h3] at h'
   rw [get_ok hb (by omega) h' (zg_lt hN), bS]
   simp only []
   rw [if_pos trivial, if_pos h3, bnd, vint_Zag_eq (zg_lt hN), zu_zg, rawB, if_pos h3]
   have e : r = ⟨r.fTag, r.fWire, r.fN, []⟩ := by cases r; simp only at h4; subst h4; rfl
   rw [← e, lP, Nat.add_assoc]
 · rw [if_neg (by omega)] at h' hl
   rw [aA] at h'
   have hl' := zF3 (by omega) h'
   rw [lP] at hl'
   rw [get_ok hb (by omega) h' (show r.fB.length < 2 ^ 64 by omega), bS]
   simp only []
   have h'' := zv2 h'
   have e1 : IntKind.i64.wrap ((b.length : Int) - ((n + (vb (keyN r)).length + (vb r.fB.length).length : Nat) : Int)) = ((r.fB.length + post.length : Nat) : Int) := by rw [zW (by omega) (by omega)]; omega
   have e2 : IntKind.i64.wrap (r.fB.length : Int) = (r.fB.length : Int) := zW (by omega) (by omega)
   have e3 : IntKind.i64.wrap (((n + (vb (keyN r)).length + (vb r.fB.length).length : Nat) : Int) + (r.fB.length : Int)) = ((n + (vb (keyN r)).length + (vb r.fB.length).length + r.fB.length : Nat) : Int) := by rw [zW (by omega) (by omega)]; omega
   rw [if_pos trivial, if_neg (by omega), e1, u64w (by omega), if_neg (by omega), e2, e3, zy4 (by omega), bS, cutL, Int.toNat_natCast, Int.toNat_natCast, h'', Nat.add_sub_cancel_left, List.take_left' rfl, rawB, if_neg (by omega), lP, lP]
   have e : r = ⟨r.fTag, r.fWire, 0, r.fB⟩ := by cases r; simp only at h4; subst h4; rfl
   rw [← e, show n + (vb (keyN r)).length + (vb r.fB.length).length + r.fB.length = n + ((vb (keyN r)).length + ((vb r.fB.length).length + r.fB.length)) by omega]
theorem one_inv {b : List UInt8} {n : Nat} (hb : b.length ≤ 4096) (hn : n ≤ b.length) : ∃ r, wire_one b (n : Int) = some r ∧
 (r.2.2 = 0 → ∃ x post, b.drop n = rawB x ++ post ∧ zb2 x ∧ r = (x, ((n + (rawB x).length : Nat) : Int), 0)) ∧ 0 ≤ r.2.2 := by
 obtain ⟨r1, e1, i1, p1⟩ := get_inv hb hn
 by_cases z1 : r1.2.2 = 0
 · obtain ⟨v, post, hd, hv, rfl⟩ := i1 z1
   have hl := zF3 hn hd
   have hd' := zv2 hd
   by_cases c1 : (decide ((v : Int) < 2) || decide ((500 : Int) < IntKind.u64.wrap ((v : Int).tdiv 2))) = true
   · refine ⟨_, by unfold wire_one; rw [e1, bS, if_pos rfl, if_pos c1], ?_, by decide⟩
     intro h; exact absurd h (by decide)
   · have c1' := c1
     simp only [Bool.or_eq_true, decide_eq_true_eq, not_or] at c1
     obtain ⟨c2, c3⟩ := c1
     have d1 : (v : Int).tdiv 2 = ((v / 2 : Nat) : Int) := by rw [Int.tdiv_eq_ediv_of_nonneg (by omega)]; omega
     have d2 : (v : Int).tmod 2 = ((v % 2 : Nat) : Int) := by rw [Int.tmod_eq_emod_of_nonneg (by omega)]; omega
     rw [d1, u64w (by omega)] at c3
     obtain ⟨r2, e2, i2, p2⟩ := get_inv hb (n := n + (vb v).length) (by omega)
     by_cases z2 : r2.2.2 = 0
     · obtain ⟨w, post2, hd2, hw, rfl⟩ := i2 z2
       have hl2 := zF3 (by omega) hd2
       by_cases c4 : v % 2 = 0
       · have ok : zb2 ⟨((v / 2 : Nat) : Int), 0, zu w, []⟩ := ⟨check_num (by omega) (by omega), zu_in hw⟩
         have hkey : keyN ⟨((v / 2 : Nat) : Int), 0, zu w, []⟩ = v := by unfold keyN; simp only []; omega
         have hdr : b.drop n = rawB ⟨((v / 2 : Nat) : Int), 0, zu w, []⟩ ++ post2 := by
          rw [rawB, hkey, if_pos rfl]; simp only [zg_zu]; rw [hd, ← hd', hd2, aA]
         refine ⟨_, one_ok hb hn hdr ok, ?_, Int.le_refl 0⟩
         intro _; exact ⟨_, _, hdr, ok, rfl⟩
       · have c5 : v % 2 = 1 := by omega
         by_cases c6 : w ≤ post2.length
         · have ok : zb2 ⟨((v / 2 : Nat) : Int), 1, 0, post2.take w⟩ := ⟨zA4 (by omega) (by omega) (by rw [List.length_take]; omega), (show In64 0 from ⟨by decide, by decide⟩)⟩
           have hkey : keyN ⟨((v / 2 : Nat) : Int), 1, 0, post2.take w⟩ = v := by unfold keyN; simp only []; omega
           have hdr : b.drop n = rawB ⟨((v / 2 : Nat) : Int), 1, 0, post2.take w⟩ ++ post2.drop w := by
            rw [rawB, hkey, if_neg (show ¬ (1 : Int) = 0 by decide)]
            simp only [List.length_take, Nat.min_eq_left c6]
            rw [hd, ← hd', hd2, aA, aA, List.take_append_drop]
           refine ⟨_, one_ok hb hn hdr ok, ?_, Int.le_refl 0⟩
           intro _; exact ⟨_, _, hdr, ok, rfl⟩
         · have e3 : IntKind.i64.wrap ((b.length : Int) - ((n + (vb v).length + (vb w).length : Nat) : Int)) = ((post2.length : Nat) : Int) := by rw [zW (by omega) (by omega)]; omega
           refine ⟨_, by unfold wire_one; rw [e1, bS, if_pos rfl, if_neg c1', e2, bS, if_pos rfl, d2, if_neg (by rw [zW (by omega) (by omega)]; omega), e3, u64w (by omega), if_pos (by omega)], ?_, by decide⟩
           intro h; exact absurd h (by decide)
     · refine ⟨_, by unfold wire_one; rw [e1, bS, if_pos rfl, if_neg c1', e2, bS, if_neg z2], ?_, p2⟩
       intro h; exact absurd h z2
 · refine ⟨_, by unfold wire_one; rw [e1, bS, if_neg z1], ?_, p1⟩
   intro h; exact absurd h z1
theorem zg1 (r : GRaw) (l : List GRaw) : zY (r :: l) = rawB r ++ zY l := by rw [zY, fC]; rfl
theorem zV1 (l m : List GRaw) : zY (l ++ m) = zY l ++ zY m := by rw [zY, fA]; rfl
theorem get_l_ok {b : List UInt8} (hb : b.length ≤ 4096) : ∀ (l : List GRaw) (k n : Nat) (acc : List GRaw), n ≤ b.length → b.drop n = zY l → (∀ r ∈ l, zb2 r) → 2 * acc.length ≤ n → b.length < k + n →
 wire_Get.l12 b k acc (n : Int) = some (acc ++ l, 0)
 | l, 0, n, acc, hn, _, _, _, hk => by omega
 | [], k + 1, n, acc, hn, hd, _, _, hk => by
  have := congrArg lN hd
  rw [List.length_drop, zY, fZ, lZ] at this
  rw [wire_Get.l12, if_neg (by omega), aN]
 | r :: l, k + 1, n, acc, hn, hd, hr, ha, hk => by
  rw [zg1] at hd
  have hl := zF3 hn hd
  have h2 := rawB_pos r
  rw [wire_Get.l12, if_pos (by omega), one_ok hb hn hd (hr r (mS ..)), bS, if_pos rfl, zp1 (by omega), bS]
  rw [get_l_ok hb l k (n + (rawB r).length) (acc ++ [r]) (by omega) (zv2 hd) (fun s hs => hr s (mO _ hs)) (by rw [lP, List.length_singleton]; omega) (by omega), aA]; rfl
theorem get_l_inv {b : List UInt8} (hb : b.length ≤ 4096) : ∀ (k n : Nat) (acc : List GRaw), n ≤ b.length → 2 * acc.length ≤ n → b.length < k + n →
 ∃ r, wire_Get.l12 b k acc (n : Int) = some r ∧ (r.2 = 0 → ∃ l, b.drop n = zY l ∧ (∀ r ∈ l, zb2 r) ∧ r = (acc ++ l, 0)) ∧ 0 ≤ r.2 ∧ (r.2 ≠ 0 → r.1 = [])
 | 0, n, acc, hn, _, hk => by omega
 | k + 1, n, acc, hn, ha, hk => by
  by_cases h : n < b.length
  · obtain ⟨r1, e1, i1, p1⟩ := one_inv hb hn
    by_cases z1 : r1.2.2 = 0
    · obtain ⟨x, post, hd, ok, rfl⟩ := i1 z1
      have hl := zF3 hn hd
      have h2 := rawB_pos x
      obtain ⟨r2, e2, i2, p2⟩ := get_l_inv hb k (n + (rawB x).length) (acc ++ [x]) (by omega) (by rw [lP, List.length_singleton]; omega) (by omega)
      refine ⟨r2, by rw [wire_Get.l12, if_pos (by omega), e1, bS, if_pos rfl, zp1 (by omega), bS]; exact e2, ?_, p2⟩
      intro hz
      obtain ⟨l, hd2, hok, rfl⟩ := i2 hz
      refine ⟨x :: l, ?_, ?_, by rw [aA]; rfl⟩
      · rw [zg1, hd, ← hd2, zv2 hd]
      · intro s hs
        rcases mI.1 hs with rfl | hs
        · exact ok
        · exact hok s hs
    · refine ⟨_, by rw [wire_Get.l12, if_pos (by omega), e1, bS, if_neg z1], fun h => absurd h z1, p1, fun _ => rfl⟩
  · refine ⟨_, by rw [wire_Get.l12, if_neg (by omega)], fun _ => ⟨[], ?_, (fun r hr => by cases hr), by rw [aN]⟩, Int.le_refl 0, fun h => absurd rfl h⟩
    rw [List.drop_eq_nil_of_le (by omega)]; rfl
theorem get_rounds : 4097 ≤ rounds := by decide
theorem wire_Get_ok {l : List GRaw} (h : ∀ r ∈ l, zb2 r) (hb : (zY l).length ≤ 4096) : wire_Get (zY l) = some (l, 0) := by
 rw [wire_Get, if_neg (by omega)]
 have := get_l_ok hb l rounds 0 [] (Nat.zero_le _) rfl h (nR _) (by have := get_rounds; omega)
 simpa using this
theorem zB4 (b : List UInt8) : ∃ r, wire_Get b = some r ∧ (r.2 = 0 → b = zY r.1 ∧ b.length ≤ 4096 ∧ ∀ x ∈ r.1, zb2 x) ∧ 0 ≤ r.2 ∧ (r.2 ≠ 0 → r.1 = []) := by
 by_cases hb : b.length ≤ 4096
 · obtain ⟨r, e, i, p, q⟩ := get_l_inv hb rounds 0 [] (Nat.zero_le _) (nR _) (by have := get_rounds; omega)
   refine ⟨r, by rw [wire_Get, if_neg (by omega)]; exact e, ?_, p, q⟩
   intro hz
   obtain ⟨l, hd, ok, rfl⟩ := i hz
   exact ⟨hd, hb, ok⟩
 · refine ⟨_, by rw [wire_Get, if_pos (by omega)], fun h => absurd h (by decide), by decide, fun _ => rfl⟩
end Go.Proofs.YtaddlmlpeghonaaDoor
end
section
set_option maxRecDepth 4000
namespace Go.Proofs.YtaddlmlpeghonaaDoor
open AM
def insR (r : GRaw) : List GRaw → List GRaw
 | [] => [r]
 | x :: l => if r.fTag < x.fTag then r :: x :: l else x :: insR r l
def srtA : List GRaw → List GRaw → List GRaw
 | [], S => S
 | r :: q, S => srtA q (insR r S)
def srt (l : List GRaw) : List GRaw := srtA l []
def TagLe (a b : GRaw) : Prop := a.fTag ≤ b.fTag
theorem zS4 {r : GRaw} : ∀ {A B : List GRaw}, (∀ a ∈ A, a.fTag ≤ r.fTag) → (∀ b ∈ B, r.fTag < b.fTag) → insR r (A ++ B) = A ++ r :: B
 | [], [], _, _ => rfl
 | [], b :: B, _, hB => by
  rw [nA, insR, if_pos (hB b (mS ..))]; rfl
 | a :: A, B, hA, hB => by
  rw [cA, insR, if_neg (by have := hA a (mS ..); omega), zS4 (fun x hx => hA x (mO _ hx)) hB]; rfl
theorem insR_mem {r x : GRaw} : ∀ {l : List GRaw}, x ∈ insR r l ↔ x = r ∨ x ∈ l
 | [] => by simp [insR]
 | y :: l => by
  rw [insR]; split
  · simp
  · rw [mI, insR_mem, mI]
    constructor
    · rintro (h | h | h)
      · exact Or.inr (Or.inl h)
      · exact Or.inl h
      · exact Or.inr (Or.inr h)
    · rintro (h | h | h)
      · exact Or.inr (Or.inl h)
      · exact Or.inl h
      · exact Or.inr (Or.inr h)
theorem zd4 (r : GRaw) : ∀ l : List GRaw, (insR r l).length = l.length + 1
 | [] => rfl
 | x :: l => by
  rw [insR]; split
  · rfl
  · rw [lC, zd4 r l, lC]
theorem zr2 {r : GRaw} : ∀ {l : List GRaw}, l.Pairwise TagLe → (insR r l).Pairwise TagLe
 | [], _ => by simp [insR]
 | x :: l, h => by
  rw [pC] at h
  rw [insR]; split
  · rename_i hlt
    rw [pC, pC]
    refine ⟨?_, h⟩
    intro y hy
    rcases mI.1 hy with rfl | hy
    · unfold TagLe; omega
    · have := h.1 y hy; unfold TagLe at *; omega
  · rename_i hge
    rw [pC]
    refine ⟨?_, zr2 h.2⟩
    intro y hy
    rcases insR_mem.1 hy with rfl | hy
    · unfold TagLe; omega
    · exact h.1 y hy
theorem zx5 {r : GRaw} (t : Int) : ∀ {l : List GRaw}, l.Pairwise TagLe → (insR r l).filter (fun x => x.fTag = t) = l.filter (fun x => x.fTag = t) ++ (if r.fTag = t then [r] else [])
 | [], _ => by rw [insR, List.filter_nil, nA, List.filter_cons, List.filter_nil]; simp only [decide_eq_true_eq]
 | x :: l, h => by
  rw [pC] at h
  rw [insR]; split
  · rename_i hlt
    rw [List.filter_cons]
    by_cases hr : r.fTag = t
    · have hn : (x :: l).filter (fun x => x.fTag = t) = [] := by
       rw [List.filter_eq_nil_iff]
       intro y hy
       simp only [decide_eq_true_eq]
       rcases mI.1 hy with rfl | hy
       · omega
       · have := h.1 y hy; unfold TagLe at this; omega
      rw [hn, if_pos (by simpa using hr), if_pos hr]; rfl
    · rw [if_neg (by simpa using hr), if_neg hr, aN]
  · rw [List.filter_cons, List.filter_cons, zx5 t h.2]
    split <;> rfl
theorem zf5 : ∀ {l S : List GRaw}, S.Pairwise TagLe → (srtA l S).Pairwise TagLe
 | [], _, h => h
 | r :: l, S, h => by rw [srtA]; exact zf5 (l := l) (zr2 h)
theorem zC3 (l : List GRaw) : (srt l).Pairwise TagLe := zf5 List.Pairwise.nil
theorem srtA_len : ∀ (l S : List GRaw), (srtA l S).length = S.length + l.length
 | [], _ => rfl
 | r :: l, S => by rw [srtA, srtA_len, zd4, lC]; omega
theorem srt_len (l : List GRaw) : (srt l).length = l.length := by rw [srt, srtA_len, lZ, nZ]
theorem srtA_mem {x : GRaw} : ∀ {l S : List GRaw}, x ∈ srtA l S ↔ x ∈ S ∨ x ∈ l
 | [], S => by simp [srtA]
 | r :: l, S => by
  rw [srtA, srtA_mem, insR_mem, mI]
  constructor
  · rintro ((h | h) | h)
    · exact Or.inr (Or.inl h)
    · exact Or.inl h
    · exact Or.inr (Or.inr h)
  · rintro (h | h | h)
    · exact Or.inl (Or.inr h)
    · exact Or.inl (Or.inl h)
    · exact Or.inr h
theorem srt_mem {x : GRaw} {l : List GRaw} : x ∈ srt l ↔ x ∈ l := by rw [srt, srtA_mem]; simp
theorem zg5 (t : Int) : ∀ {l S : List GRaw}, S.Pairwise TagLe → (srtA l S).filter (fun x => x.fTag = t) = S.filter (fun x => x.fTag = t) ++ l.filter (fun x => x.fTag = t)
 | [], S, _ => by rw [srtA, List.filter_nil, aN]
 | r :: l, S, h => by
  rw [srtA, zg5 t (zr2 h), zx5 t h, List.filter_cons, aA]
  congr 1
  simp only [decide_eq_true_eq]
  split <;> rfl
theorem srt_filter (l : List GRaw) (t : Int) : (srt l).filter (fun x => x.fTag = t) = l.filter (fun x => x.fTag = t) := by
 rw [srt, zg5 t List.Pairwise.nil]; rfl
theorem srtA_id : ∀ {l S : List GRaw}, (S ++ l).Pairwise TagLe → srtA l S = S ++ l
 | [], S, _ => by rw [srtA, aN]
 | r :: l, S, h => by
  have hS : ∀ a ∈ S, a.fTag ≤ r.fTag := fun a ha => (List.pairwise_append.1 h).2.2 a ha r (mS ..)
  have e : insR r S = S ++ [r] := by
   have := zS4 (r := r) (A := S) (B := []) hS (fun b hb => by cases hb)
   rwa [aN] at this
  rw [srtA, e, srtA_id (by rwa [aA]), aA]; rfl
theorem srt_id {l : List GRaw} (h : l.Pairwise TagLe) : srt l = l := srtA_id (S := []) h
theorem sorted_ext : ∀ {l m : List GRaw}, l.Pairwise TagLe → m.Pairwise TagLe → (∀ t : Int, l.filter (fun x => x.fTag = t) = m.filter (fun x => x.fTag = t)) → l = m
 | [], [], _, _, _ => rfl
 | [], y :: m, _, _, h => by
  have := h y.fTag
  rw [List.filter_nil, List.filter_cons, if_pos (by simp)] at this; cases this
 | x :: l, [], _, _, h => by
  have := h x.fTag
  rw [List.filter_nil, List.filter_cons, if_pos (by simp)] at this; cases this
 | x :: l, y :: m, hl, hm, h => by
  rw [pC] at hl hm
  have hxy : x.fTag = y.fTag := by
   have h1 : x ∈ (y :: m).filter (fun z => z.fTag = x.fTag) := by rw [← h, List.filter_cons, if_pos (by simp)]; exact mS ..
   have h2 : y ∈ (x :: l).filter (fun z => z.fTag = y.fTag) := by rw [h, List.filter_cons, if_pos (by simp)]; exact mS ..
   have a1 : y.fTag ≤ x.fTag := by
    rcases mI.1 (List.mem_filter.1 h1).1 with e | h1
    · rw [e]; exact Int.le_refl _
    · exact hm.1 x h1
   have a2 : x.fTag ≤ y.fTag := by
    rcases mI.1 (List.mem_filter.1 h2).1 with e | h2
    · rw [e]; exact Int.le_refl _
    · exact hl.1 y h2
   omega
  have e : x = y := by
   have := h x.fTag
   rw [List.filter_cons, List.filter_cons, if_pos (by simp), if_pos (by simp [hxy])] at this
   injection this
  subst e
  congr 1
  refine sorted_ext hl.2 hm.2 fun t => ?_
  have := h t
  rw [List.filter_cons, List.filter_cons] at this
  split at this
  · injection this
  · exact this
theorem srt_of {l m : List GRaw} (hm : m.Pairwise TagLe) (h : ∀ t : Int, l.filter (fun x => x.fTag = t) = m.filter (fun x => x.fTag = t)) : srt l = m :=
 sorted_ext (zC3 l) hm fun t => by rw [srt_filter, h]
theorem zs2 {α : Type} {A B : List α} {x : α} {i : Int} (h : i = A.length) : idxL (A ++ x :: B) i = some x := by
 subst h
 rw [idxL, if_pos (by omega), Int.toNat_natCast, gR (nR _), Nat.sub_self]; rfl
theorem idx_t {α : Type} {l : List α} {i : Int} {x : α} (h0 : 0 ≤ i) (h : l[i.toNat]? = some x) : idxL l i = some x := by rw [idxL, if_pos h0, h]
theorem sorted_l17 {r z : GRaw} {S P : List GRaw} (rec8 : Int → List GRaw → Option (List GRaw)) : ∀ (k : Nat) (A B : List GRaw), S = A ++ B → (∀ b ∈ B, r.fTag < b.fTag) → A.Pairwise TagLe → A.length < k → S.length < 1000000 →
 wire_Sorted.l17 (S.length : Int) (S ++ z :: P) rec8 r k (A.length : Int) = rec8 ((S.length : Int) + 1) (insR r S ++ P)
 | 0, _, _, _, _, _, h, _ => by omega
 | k + 1, A, B, hS, hB, hA, hk, hn => by
  have stop : (∀ a ∈ A, a.fTag ≤ r.fTag) → wire_Sorted.j20 (S.length : Int) (S ++ z :: P) rec8 r (A.length : Int) (wire_Sorted.l17 (S.length : Int) (S ++ z :: P) rec8 r k) false = rec8 ((S.length : Int) + 1) (insR r S ++ P) := by
   intro hle
   have hl : S.length = A.length + B.length := by rw [hS, lP]
   have e1 : IntKind.i64.wrap ((A.length : Int) + 1) = ((A.length + 1 : Nat) : Int) := by rw [zW (by omega) (by omega)]; omega
   rw [wire_Sorted.j20, if_neg (by decide), e1, zy4 (by rw [lP, lC]; omega), bS, zy4 (by rw [lP, lC]; omega), bS]
   have e2 : Int.toNat ((S.length : Int) + 1) = S.length + 1 := by omega
   rw [Int.toNat_natCast, Int.toNat_natCast, Int.toNat_natCast, e2, show min (S.length - A.length) (S.length + 1 - (A.length + 1)) = B.length by omega]
   have hc : ∃ w : GRaw, A.length < (S ++ z :: P).length ∧ zH3 (S ++ z :: P) (A.length + 1) A.length B.length = A ++ w :: (B ++ P) := by
    cases hB' : B with
    | nil =>
     subst hB'
     rw [aN] at hS
     refine ⟨z, by rw [hS, lP, lC]; omega, ?_⟩
     rw [zH3, hS, lZ, List.take_zero, nA, Nat.add_zero, List.drop_append, List.drop_eq_nil_of_le (by omega), List.take_append, List.take_of_length_le (by omega)]
     rw [show A.length + 1 - A.length = 1 by omega]
     simp
    | cons b B' =>
     refine ⟨b, by rw [hS, hB', lP, lP, lC]; omega, ?_⟩
     rw [hS, hB', zH3]
     have t1 : ((A ++ b :: B') ++ z :: P).take (A.length + 1) = A ++ [b] := by
      rw [aA, List.take_append, List.take_of_length_le (by omega), show A.length + 1 - A.length = 1 by omega]; rfl
     have t2 : (((A ++ b :: B') ++ z :: P).drop A.length).take (b :: B').length = b :: B' := by
      rw [aA, List.drop_left' rfl, List.take_left' rfl]
     have t3 : ((A ++ b :: B') ++ z :: P).drop (A.length + 1 + (b :: B').length) = P := by
      rw [show (A ++ b :: B') ++ z :: P = ((A ++ b :: B') ++ [z]) ++ P by rw [aA (A ++ b :: B')]; rfl]
      rw [List.drop_left']
      simp only [lP, lC, lZ]; omega
     rw [t1, t2, t3]
     simp only [aA, cA, nA]
   obtain ⟨w, hlt, hc⟩ := hc
   rw [hc, zs2 rfl, bS, setI, Int.toNat_natCast, List.set_append_right _ _ (nR _), Nat.sub_self, List.set_cons_zero, hS, zS4 hle hB, aA]; rfl
  rcases List.eq_nil_or_concat A with rfl | ⟨A', a, rfl⟩
  · rw [wire_Sorted.l17, if_neg (by simp)]
    exact stop (fun a ha => by cases ha)
  · rw [List.concat_eq_append] at *
    have hlA : (A' ++ [a]).length = A'.length + 1 := by rw [lP, List.length_singleton]
    have hlS : S.length = (A' ++ [a]).length + B.length := by rw [hS, lP]
    have e1 : IntKind.i64.wrap (((A' ++ [a]).length : Int) - 1) = (A'.length : Int) := by
     rw [zW (by omega) (by omega)]; omega
    rw [wire_Sorted.l17, if_pos (by omega), e1]
    have ei : idxL (S ++ z :: P) (A'.length : Int) = some a := by
     rw [hS, aA, aA]; exact zs2 rfl
    rw [ei, bS]
    by_cases hgt : r.fTag < a.fTag
    · rw [decide_eq_true hgt, wire_Sorted.j20, if_pos rfl, e1]
      refine sorted_l17 rec8 k A' (a :: B) (by rw [hS, aA]; rfl) ?_ (List.pairwise_append.1 hA).1 (by omega) hn
      intro b hb
      rcases mI.1 hb with rfl | hb
      · exact hgt
      · exact hB b hb
    · rw [decide_eq_false hgt]
      refine stop ?_
      intro x hx
      rcases mA.1 hx with hx | hx
      · have := (List.pairwise_append.1 hA).2.2 x hx a (List.mem_singleton.2 rfl)
        unfold TagLe at this; omega
      · rw [List.mem_singleton] at hx; subst hx; omega
theorem sorted_l8 : ∀ (q S P : List GRaw), P.length = q.length → S.Pairwise TagLe → S.length + q.length < 1000000 → wire_Sorted.l8 q (S.length : Int) (S ++ P) = some (srtA q S)
 | [], S, P, hP, _, _ => by
  have : P = [] := lI.1 (by simpa using hP)
  subst this
  rw [wire_Sorted.l8, srtA, aN]
 | r :: q, S, [], hP, _, _ => by cases hP
 | r :: q, S, z :: P, hP, hS, hn => by
  rw [lC] at hn
  rw [wire_Sorted.l8, sorted_l17 (S := S) (wire_Sorted.l8 q) rounds S [] (aN S).symm (fun b hb => by cases hb) hS (Nat.lt_of_lt_of_le (show S.length < 1000000 by omega) (by decide)) (by omega)]
  have e : (S.length : Int) + 1 = ((insR r S).length : Int) := by rw [zd4]; omega
  rw [e, sorted_l8 q (insR r S) P (by simpa using hP) (zr2 hS) (by rw [zd4]; omega), srtA]
theorem sorted_eq {l : List GRaw} (h : l.length < 1000000) : wire_Sorted l = some (srt l) := by
 rw [wire_Sorted, zy4 (by omega), bS, Int.toNat_natCast]
 exact sorted_l8 l [] _ List.length_replicate List.Pairwise.nil (by rw [lZ]; omega)
end Go.Proofs.YtaddlmlpeghonaaDoor
end
section
set_option maxRecDepth 4000
namespace Go.Proofs.YtaddlmlpeghonaaDoor
open AM
theorem decU_pos (s : List UInt8) (p : Nat) : 1 ≤ (decU s p).2 := by
 unfold decU Utf8.decode
 dsimp only
 repeat' split
 all_goals first | exact nR 1 | exact (by decide : 1 ≤ 2) | exact (by decide : 1 ≤ 3) | exact (by decide : 1 ≤ 4)
theorem runesNext_t (a : List UInt8) (n : Nat) (h : a.length ≤ 9223372036854775807) : ∃ r, runes_Next a (n : Int) = some r := by
 unfold runes_Next
 split
 · exact ⟨_, rfl⟩
 · rename_i h1
   simp only [Bool.or_eq_true, decide_eq_true_eq, not_or] at h1
   rw [zy4 (by omega), bS, bnd]
   split <;> exact ⟨_, rfl⟩
theorem zC4 (a : List UInt8) (h : a.length ≤ 9223372036854775807) : ∀ (k p : Nat), 0 < k → a.length < p + k → ∃ v, runes_Valid.l4 a k p = some v
 | 0, p, h0, hk => by omega
 | k + 1, p, _, hk => by
  have hd := decU_pos a p
  rw [runes_Valid.l4]
  split
  · have ih := zC4 a h k (p + (decU a p).2) (by omega) (by omega)
    split
    · obtain ⟨r, e⟩ := runesNext_t a p h
      rw [e, bS]
      split
      · exact ⟨_, rfl⟩
      · exact ih
    · exact ih
  · exact ⟨_, rfl⟩
theorem zd1 : 9223372036854775808 ≤ rounds := by decide
def zi5 (b : List UInt8) : Bool := (runes_Valid b).getD false
theorem runesV_eq {a : List UInt8} (h : a.length ≤ 9223372036854775807) : runes_Valid a = some (zi5 a) := by
 obtain ⟨v, e⟩ := zC4 a h rounds 0 (by have := zd1; omega) (by have := zd1; omega)
 unfold zi5
 rw [show runes_Valid a = some v from e]; rfl
theorem zG4 (t : Int) (l : List GTree) : (GEntry.mk t l).fTag = t := rfl
theorem zr1 (t : Int) (l : List GTree) : (GEntry.mk t l).fTrees = l := rfl
def ze3 (a b : GEntry) : Prop := a.fTag < b.fTag
def putE (t : Int) (rep : Prop) [Decidable rep] (x : GTree) : List GEntry → List GEntry
 | [] => [⟨t, [x]⟩]
 | e :: l => if e.fTag < t then e :: putE t rep x l else if e.fTag = t then ⟨t, (if rep then e.fTrees else []) ++ [x]⟩ :: l else ⟨t, [x]⟩ :: e :: l
def putN (t : Int) (rep : Prop) [Decidable rep] : List GEntry → Nat
 | [] => 1
 | e :: l => if e.fTag < t then putN t rep l else if e.fTag = t then (if rep then e.fTrees.length else 0) + 1 else 1
theorem putE_app {t : Int} {rep : Prop} [Decidable rep] {x : GTree} {B : List GEntry} : ∀ {A : List GEntry}, (∀ a ∈ A, a.fTag < t) → putE t rep x (A ++ B) = A ++ putE t rep x B
 | [], _ => rfl
 | a :: A, h => by
  rw [cA, putE, if_pos (h a (mS ..)), putE_app fun b hb => h b (mO _ hb)]; rfl
theorem putN_app {t : Int} {rep : Prop} [Decidable rep] {B : List GEntry} : ∀ {A : List GEntry}, (∀ a ∈ A, a.fTag < t) → putN t rep (A ++ B) = putN t rep B
 | [], _ => rfl
 | a :: A, h => by
  rw [cA, putN, if_pos (h a (mS ..)), putN_app fun b hb => h b (mO _ hb)]
theorem splitE (t : Int) : ∀ {es : List GEntry}, es.Pairwise ze3 → ∃ A B, es = A ++ B ∧ (∀ a ∈ A, a.fTag < t) ∧ (∀ b ∈ B, t ≤ b.fTag)
 | [], _ => ⟨[], [], rfl, (fun _ h => by cases h), (fun _ h => by cases h)⟩
 | e :: es, h => by
  rw [pC] at h
  by_cases he : e.fTag < t
  · obtain ⟨A, B, rfl, hA, hB⟩ := splitE t h.2
    refine ⟨e :: A, B, rfl, ?_, hB⟩
    intro a ha
    rcases mI.1 ha with rfl | ha
    · exact he
    · exact hA a ha
  · refine ⟨[], e :: es, rfl, (fun _ h => by cases h), ?_⟩
    intro b hb
    rcases mI.1 hb with rfl | hb
    · omega
    · have := h.1 b hb; unfold ze3 at this; omega
theorem put1_eq {e : GEntry} {t : Int} (h1 : 1 ≤ e.fTag ∧ e.fTag ≤ 500) (h2 : 1 ≤ t ∧ t ≤ 500) : decode_put_1 e t = e.fTag - t := by
 unfold decode_put_1; exact zW (by omega) (by omega)
theorem half {x y : Nat} (h : x + y < 9223372036854775808) : IntKind.i64.wrap (Int.fdiv (IntKind.u64.wrap (IntKind.i64.wrap ((x : Int) + (y : Int)))) (2 ^ (min (Int.toNat 1) 64))) = (((x + y) / 2 : Nat) : Int) := by
 rw [zW (x := (x : Int) + y) (by omega) (by omega), u64i (by omega) (by omega), show min (Int.toNat 1) 64 = 1 from rfl, Int.fdiv_eq_ediv_of_nonneg _ (by decide), zW (by omega) (by omega)]
 omega
def zN2 (t : Int) : List GEntry → Bool
 | [] => false
 | b :: _ => decide (b.fTag = t)
theorem bs_l {t : Int} {A B : List GEntry} (ht : 1 ≤ t ∧ t ≤ 500) (hA : ∀ a ∈ A, a.fTag < t) (hB : ∀ b ∈ B, t ≤ b.fTag) (hr : ∀ e ∈ A ++ B, 1 ≤ e.fTag ∧ e.fTag ≤ 500) (hn : (A ++ B).length < 4611686018427387904) :
 ∀ (k x y : Nat), x ≤ A.length → A.length ≤ y → y ≤ (A ++ B).length → y < x + k → slices_BinarySearchFunc_Entry_decode_put_1.l6 (A ++ B) t k (x : Int) (y : Int) = some ((A.length : Int), zN2 t B)
 | 0, x, y, _, _, _, hk => by omega
 | k + 1, x, y, hx, hy, hl, hk => by
  rw [slices_BinarySearchFunc_Entry_decode_put_1.l6]
  by_cases hlt : x < y
  · rw [if_pos (by omega), half (by omega)]
    have hm : (x + y) / 2 < (A ++ B).length := by omega
    rw [idx_t (by omega) (show (A ++ B)[Int.toNat (((x + y) / 2 : Nat) : Int)]? = some ((A ++ B)[(x + y) / 2]'hm) by rw [Int.toNat_natCast]; exact List.getElem?_eq_getElem hm), bS, bnd, put1_eq (hr _ (List.getElem_mem hm)) ht]
    by_cases hc : (x + y) / 2 < A.length
    · have e : (A ++ B)[(x + y) / 2]'hm = A[(x + y) / 2]'hc := List.getElem_append_left hc
      have := hA _ (List.getElem_mem hc)
      rw [e, if_pos (by omega), zW (by omega) (by omega), show (((x + y) / 2 : Nat) : Int) + 1 = (((x + y) / 2 + 1 : Nat) : Int) by omega]
      exact bs_l ht hA hB hr hn k _ y (by omega) hy hl (by omega)
    · have hlB : (x + y) / 2 - A.length < B.length := by rw [lP] at hm; omega
      have e : (A ++ B)[(x + y) / 2]'hm = B[(x + y) / 2 - A.length]'hlB := List.getElem_append_right (by omega)
      have := hB _ (List.getElem_mem hlB)
      rw [e, if_neg (by omega)]
      exact bs_l ht hA hB hr hn k x _ hx (by omega) (by omega) (by omega)
  · have e : x = A.length := by omega
    subst e
    rw [if_neg (by omega)]
    cases B with
    | nil => rw [aN, if_neg (by omega)]; rfl
    | cons b B =>
     rw [if_pos (by rw [lP, lC]; omega), zs2 rfl, bS, bnd, put1_eq (hr b (List.mem_append_right _ (mS ..))) ht, bS, zN2]
     congr 2
     exact decide_eq_decide.2 (by omega)
theorem decode_put_eq {es : List GEntry} {f : GField} {x : GTree} (hs : es.Pairwise ze3) (hr : ∀ e ∈ es, 1 ≤ e.fTag ∧ e.fTag ≤ 500) (hf : 1 ≤ f.fTag ∧ f.fTag ≤ 500) (hn : es.length < 1000000) (ht : ∀ e ∈ es, e.fTrees.length < 1000000) :
 zQ2 es f x = some (putE f.fTag (f.fLabel = 3) x es, decide (putN f.fTag (f.fLabel = 3) es ≤ 64)) := by
 obtain ⟨A, B, rfl, hA, hB⟩ := splitE f.fTag hs
 have hln : (A ++ B).length = A.length + B.length := lP
 have bs : slices_BinarySearchFunc_Entry_decode_put_1 (A ++ B) f.fTag = some ((A.length : Int), zN2 f.fTag B) := bs_l hf hA hB hr (by omega) rounds 0 (A ++ B).length (Nat.zero_le _) (by omega) (nR _) (by have := zd1; omega)
 rw [zQ2, bs, bS, putE_app hA, putN_app hA]
 have ins : ∀ (B : List GEntry), (A ++ B).length < 1000000 → zN2 f.fTag B = false → (∀ b ∈ B, f.fTag ≤ b.fTag) → ((if ((A.length : Int), zN2 f.fTag B).2 = true then some (A ++ B) else (grd (0 ≤ ((A.length : Int), zN2 f.fTag B).1 ∧ ((A.length : Int), zN2 f.fTag B).1 ≤ ((A ++ B).length : Int))).bind fun _ => (room ((A ++ B).length + 1) 32).bind fun _ => some ((A ++ B).take ((A.length : Int), zN2 f.fTag B).1.toNat ++ ⟨f.fTag, []⟩ :: (A ++ B).drop ((A.length : Int), zN2 f.fTag B).1.toNat)).bind fun es1 =>
  (idxL es1 ((A.length : Int), zN2 f.fTag B).1).bind fun e =>
  (room ((if f.fLabel = 3 then e.fTrees.length else 0) + 1) 80).bind fun _ =>
  some (es1.set ((A.length : Int), zN2 f.fTag B).1.toNat ⟨e.fTag, (if f.fLabel = 3 then e.fTrees else []) ++ [x]⟩, decide ((((if f.fLabel = 3 then e.fTrees else []) ++ [x]).length : Int) ≤ 64))) = some (A ++ ⟨f.fTag, [x]⟩ :: B, true) := by
  intro B hln hh _
  have hl2 : (A ++ B).length = A.length + B.length := lP
  rw [hh]
  simp only [Int.toNat_natCast]
  rw [if_neg (by decide), zy4 (by omega), bS, zp1 (by omega), bS, bS, List.take_left' rfl, List.drop_left' rfl, zs2 rfl, bS, zp1 (by rw [zr1]; split <;> decide), bS, List.set_append_right _ _ (nR _), Nat.sub_self, List.set_cons_zero]
  simp only [zG4, zr1, ite_self, nA, List.length_singleton]; rfl
 cases B with
 | nil =>
  rw [ins [] hn rfl (fun _ h => by cases h)]; rfl
 | cons b B =>
  have hb := hB b (mS ..)
  by_cases hbt : b.fTag = f.fTag
  · have hh : zN2 f.fTag (b :: B) = true := decide_eq_true hbt
    have htb := ht b (List.mem_append_right _ (mS ..))
    rw [hh]
    simp only [Int.toNat_natCast]
    rw [if_pos trivial, bS, zs2 rfl, bS, zp1 (by split <;> omega), bS, List.set_append_right _ _ (nR _), Nat.sub_self, List.set_cons_zero, putE, if_neg (show ¬ b.fTag < f.fTag by omega), if_pos hbt, putN, if_neg (show ¬ b.fTag < f.fTag by omega), if_pos hbt, hbt]
    congr 2
    refine decide_eq_decide.2 ?_
    rw [lP, List.length_singleton]
    by_cases h3 : f.fLabel = 3
    · rw [if_pos h3, if_pos h3]; omega
    · rw [if_neg h3, if_neg h3, lZ]; omega
  · have hh : zN2 f.fTag (b :: B) = false := decide_eq_false hbt
    rw [ins (b :: B) hn hh hB, putE, if_neg (by omega), if_neg hbt, putN, if_neg (by omega), if_neg hbt]; rfl
theorem putE_mem {t : Int} {rep : Prop} [Decidable rep] {x : GTree} {e : GEntry} : ∀ {es : List GEntry}, e ∈ putE t rep x es → e ∈ es ∨ e.fTag = t
 | [], h => by rw [putE, List.mem_singleton] at h; subst h; exact Or.inr rfl
 | a :: es, h => by
  rw [putE] at h; split at h
  · rcases mI.1 h with rfl | h
    · exact Or.inl (mS ..)
    · rcases putE_mem h with h | h
      · exact Or.inl (mO _ h)
      · exact Or.inr h
  · split at h
    · rcases mI.1 h with rfl | h
      · exact Or.inr rfl
      · exact Or.inl (mO _ h)
    · rcases mI.1 h with rfl | h
      · exact Or.inr rfl
      · exact Or.inl h
theorem zS3 {t : Int} {rep : Prop} [Decidable rep] {x : GTree} : ∀ {es : List GEntry}, es.Pairwise ze3 → (putE t rep x es).Pairwise ze3
 | [], _ => by simp [putE]
 | a :: es, h => by
  rw [pC] at h
  rw [putE]; split
  · rename_i hlt
    rw [pC]
    refine ⟨?_, zS3 h.2⟩
    intro b hb
    rcases putE_mem hb with hb | hb
    · exact h.1 b hb
    · unfold ze3; omega
  · split
    · rename_i hge heq
      rw [pC]
      refine ⟨?_, h.2⟩
      intro b hb
      have := h.1 b hb; unfold ze3 at *; simp only [zG4]; omega
    · rename_i hge hne
      rw [pC, pC]
      refine ⟨?_, h⟩
      intro b hb
      rcases mI.1 hb with rfl | hb
      · unfold ze3; simp only [zG4]; omega
      · have := h.1 b hb; unfold ze3 at *; simp only [zG4]; omega
theorem putE_len {t : Int} {rep : Prop} [Decidable rep] {x : GTree} : ∀ {es : List GEntry}, (putE t rep x es).length ≤ es.length + 1
 | [] => by rw [putE]; exact nR _
 | a :: es => by
  rw [putE]; split
  · rw [lC, lC]; have := putE_len (t := t) (rep := rep) (x := x) (es := es); omega
  · split <;> simp only [lC] <;> omega
theorem putE_all {t : Int} {rep : Prop} [Decidable rep] {x : GTree} {e : GEntry} : ∀ {es : List GEntry}, e ∈ putE t rep x es → e ∈ es ∨ (e.fTag = t ∧ e.fTrees.length = putN t rep es ∧ e.fTrees ≠ [])
 | [], h => by rw [putE, List.mem_singleton] at h; subst h; exact Or.inr ⟨rfl, rfl, by rw [zr1]; simp⟩
 | a :: es, h => by
  rw [putE] at h; rw [putN]; split at h
  · rename_i hlt
    rw [if_pos hlt]
    rcases mI.1 h with rfl | h
    · exact Or.inl (mS ..)
    · rcases putE_all h with h | h
      · exact Or.inl (mO _ h)
      · exact Or.inr h
  · rename_i hlt
    rw [if_neg hlt]
    split at h
    · rename_i heq
      rw [if_pos heq]
      rcases mI.1 h with rfl | h
      · refine Or.inr ⟨rfl, ?_, by rw [zr1]; simp⟩
        simp only [zr1, lP, List.length_singleton]; split <;> rfl
      · exact Or.inl (mO _ h)
    · rename_i hne
      rw [if_neg hne]
      rcases mI.1 h with rfl | h
      · exact Or.inr ⟨rfl, rfl, by rw [zr1]; simp⟩
      · exact Or.inl h
def zi2 : GTree := ⟨0, 0, [], [], []⟩
def isZ (m : GMessage) (e : GEntry) : Bool := decide ((check_Field m e.fTag).1.fLabel = 1) && valid_Zero (e.fTrees.headD zi2)
def zdel (m : GMessage) (es : List GEntry) : List GEntry := es.filter fun e => !isZ m e
theorem zl4 {m : GMessage} : ∀ {es : List GEntry}, (∀ e ∈ es, e.fTrees ≠ []) → zu1 m es = some (zdel m es)
 | [], _ => rfl
 | e :: es, h => by
  have he := h e (mS ..)
  rw [zu1, decode_message_1, bnd]
  have e1 : (if (check_Field m e.fTag).1.fLabel = 1 then (idxL e.fTrees 0).bind fun y2 => bnd (valid_Zero y2) fun r5 => some r5 else some false) = some (isZ m e) := by
   unfold isZ
   split
   · rename_i hl
     cases ht : e.fTrees with
     | nil => exact absurd ht he
     | cons a l =>
      rw [idx_t (Int.le_refl 0) (show (a :: l)[Int.toNat 0]? = some a from rfl), bS, bnd, hl]; rfl
   · rename_i hl
     rw [decide_eq_false hl, Bool.false_and]
  rw [e1, bS, bS, zl4 fun a ha => h a (mO _ ha), bS]
  unfold zdel; rw [List.filter_cons]
  cases isZ m e <;> rfl
def fldD (m : GMessage) (one : GType → GRaw → GTree × Int) : List GRaw → List GEntry → List GRaw → GTree × Int
 | [], es, rest => (⟨3, 0, [], zdel m es, srt rest⟩, 0)
 | r :: q, es, rest =>
  if (check_Field m r.fTag).2 = true then
   (if (one (check_Field m r.fTag).1.fType r).2 = 0 then
    (if putN r.fTag ((check_Field m r.fTag).1.fLabel = 3) es ≤ 64 then fldD m one q (putE r.fTag ((check_Field m r.fTag).1.fLabel = 3) (one (check_Field m r.fTag).1.fType r).1 es) rest else (zi2, 4))
   else (zi2, (one (check_Field m r.fTag).1.fType r).2))
  else fldD m one q es (rest ++ [r])
theorem checkField_tag {m : GMessage} {t : Int} (h : (check_Field m t).2 = true) : (check_Field m t).1.fTag = t ∧ (check_Field m t).1 ∈ m.fFields := by
 have key : ∀ (l : List GField) (i : Int), (check_Field.l4 t l i).2 = true → (check_Field.l4 t l i).1.fTag = t ∧ (check_Field.l4 t l i).1 ∈ l := by
  intro l
  induction l with
  | nil => intro i h; cases h
  | cons f l ih =>
   intro i h
   rw [check_Field.l4] at h ⊢
   split at h
   · rename_i hf
     rw [if_pos hf]; exact ⟨hf, mS ..⟩
   · rename_i hf
     rw [if_neg hf]
     obtain ⟨h1, h2⟩ := ih _ h
     exact ⟨h1, mO _ h2⟩
 exact key m.fFields 0 h
theorem fldD_eq {self : GSchema → GType → GRaw → Int → Option (GTree × Int)} {s : GSchema} {m : GMessage} {deep : Int} {one : GType → GRaw → GTree × Int} :
 ∀ {l : List GRaw} {es : List GEntry} {rest : List GRaw}, (∀ r ∈ l, 1 ≤ r.fTag ∧ r.fTag ≤ 500) → (∀ r ∈ l, ∀ y, self s y r deep = some (one y r)) → es.Pairwise ze3 → (∀ e ∈ es, (1 ≤ e.fTag ∧ e.fTag ≤ 500) ∧ e.fTrees ≠ [] ∧ e.fTrees.length ≤ 64) → es.length + l.length < 100000 → rest.length + l.length < 100000 →
 decode_message.l self s m deep l es rest = some (fldD m one l es rest)
 | [], es, rest, _, _, _, he, hn, hn' => by
  rw [decode_message.l, zp1 (by simp only [lZ] at hn; omega), bS, zl4 fun e h => (he e h).2.1, bS, sorted_eq (by simp only [lZ] at hn'; omega), bS, fldD]
 | r :: l, es, rest, ht, ho, hs, he, hn, hn' => by
  rw [lC] at hn hn'
  have hr := ht r (mS ..)
  have ht' : ∀ r ∈ l, 1 ≤ r.fTag ∧ r.fTag ≤ 500 := fun x hx => ht x (mO _ hx)
  have ho' : ∀ r ∈ l, ∀ y, self s y r deep = some (one y r) := fun x hx => ho x (mO _ hx)
  rw [decode_message.l, bnd, fldD]
  by_cases hf : (check_Field m r.fTag).2 = true
  · obtain ⟨hft, _⟩ := checkField_tag hf
    rw [if_pos hf, if_pos hf, ho r (mS ..), bS]
    by_cases h0 : (one (check_Field m r.fTag).1.fType r).2 = 0
    · rw [if_pos h0, if_pos h0, decode_put_eq hs (fun e h => (he e h).1) (by rw [hft]; exact hr) (by omega) (fun e h => by have := (he e h).2.2; omega), bS, hft]
      by_cases hp : putN r.fTag ((check_Field m r.fTag).1.fLabel = 3) es ≤ 64
      · rw [if_pos hp, if_pos (decide_eq_true hp)]
        refine fldD_eq (es := putE r.fTag ((check_Field m r.fTag).1.fLabel = 3) (one (check_Field m r.fTag).1.fType r).1 es) ht' ho' (zS3 hs) ?_ (by have := putE_len (t := r.fTag) (rep := (check_Field m r.fTag).1.fLabel = 3) (x := (one (check_Field m r.fTag).1.fType r).1) (es := es); omega) (by omega)
        intro e h
        rcases putE_all h with h | ⟨h1, h2, h3⟩
        · exact he e h
        · exact ⟨by rw [h1]; exact hr, h3, by omega⟩
      · rw [if_neg hp, if_neg (by simpa using hp)]; rfl
    · rw [if_neg h0, if_neg h0]; rfl
  · rw [if_neg hf, if_neg hf, zp1 (by omega), bS]
    exact fldD_eq ht' ho' hs he (by omega) (by rw [lP, List.length_singleton]; omega)
def zw4 (s : GSchema) (n : List UInt8) : GMessage := (check_Message s n).1
def oneD (msg : GMessage → List UInt8 → GTree × Int) (s : GSchema) (y : GType) (r : GRaw) : GTree × Int :=
 if (if y.fKind = 4 ∨ y.fKind = 5 ∨ y.fKind = 7 then r.fWire = 1 else r.fWire = 0) then
  (if y.fKind = 3 ∨ y.fKind = 6 then (if valid_Number y r.fN = true then (⟨1, r.fN, [], [], []⟩, 0) else (zi2, 11))
  else if y.fKind = 4 then (if zi5 r.fB = true then (⟨2, 0, r.fB, [], []⟩, 0) else (zi2, 9))
  else if y.fKind = 7 then msg (zw4 s y.fName) r.fB
  else (if r.fWire = 1 then ⟨2, 0, r.fB, [], []⟩ else ⟨1, r.fN, [], [], []⟩, 0))
 else (zi2, 8)
theorem oneD_eq {self : GSchema → GMessage → List UInt8 → Int → Option (GTree × Int)} {self2 : GSchema → GType → GRaw → Int → Option (GTree × Int)} {s : GSchema} {y : GType} {r : GRaw} {deep : Int} {msg : GMessage → List UInt8 → GTree × Int} (hw : r.fWire = 0 ∨ r.fWire = 1) (hb : r.fB.length ≤ 4096) (hd : deep < 1000) (hd' : 0 ≤ deep) (hs : self s (zw4 s y.fName) r.fB (deep + 1) = some (msg (zw4 s y.fName) r.fB)) :
 decode_one.body self self2 s y r deep = some (oneD msg s y r) := by
 have hv := runesV_eq (a := r.fB) (by omega)
 have ed : IntKind.i64.wrap (deep + 1) = deep + 1 := zW (by omega) (by omega)
 have hm : ∀ z : GTree × Int, some (z.1, z.2) = some z := fun z => rfl
 unfold decode_one.body decode_one.j2 decode_one.j26 decode_one.j3 decode_one.j6 decode_one.j4 oneD bnd
 unfold zw4 at hs ⊢
 simp only [zy4 (show r.fB.length ≤ 9223372036854775807 by omega), hv, ed, bS, hs]
 rcases hw with hw | hw <;> simp only [hw, reduceIte, reduceCtorEq, Int.reduceEq] <;>
  by_cases k4 : y.fKind = 4 <;> by_cases k5 : y.fKind = 5 <;> by_cases k7 : y.fKind = 7 <;> by_cases k3 : y.fKind = 3 <;> by_cases k6 : y.fKind = 6 <;>
  first
   | (exfalso; omega)
   | (simp only [k4, k5, k7, k3, k6, reduceIte, reduceCtorEq, Int.reduceEq, decide_true, decide_false, or_true, true_or, or_false, false_or, or_self, Bool.false_eq_true] <;> first | rfl | (cases valid_Number y r.fN <;> rfl) | (cases zi5 r.fB <;> rfl))
def getD (b : List UInt8) : List GRaw × Int := (wire_Get b).getD ([], 99)
theorem getD_eq (b : List UInt8) : wire_Get b = some (getD b) := by
 obtain ⟨r, e, _⟩ := zB4 b
 unfold getD; rw [e]; rfl
theorem getD_ok {b : List UInt8} (h : (getD b).2 = 0) : b = zY (getD b).1 ∧ b.length ≤ 4096 ∧ ∀ x ∈ (getD b).1, zb2 x := by
 obtain ⟨r, e, i, _⟩ := zB4 b
 rw [getD_eq] at e
 obtain rfl := Option.some.inj e
 exact i h
theorem zt4 : ∀ l : List GRaw, 2 * l.length ≤ (zY l).length
 | [] => Nat.zero_le _
 | r :: l => by
  rw [zg1, lP, lC]
  have := zt4 l; have := rawB_pos r; omega
def decM (s : GSchema) : Nat → GMessage → List UInt8 → GTree × Int
 | 0, _, _ => (zi2, 10)
 | d + 1, m, b => if (getD b).2 = 0 then fldD m (oneD (decM s d) s) (getD b).1 [] [] else (zi2, (getD b).2)
theorem zR2 (s : GSchema) : ∀ (d k : Nat) (m : GMessage) (b : List UInt8) (deep : Int), d ≤ 10 → deep = 11 - d → 2 * d + 1 ≤ k → decode_message k s m b deep = some (decM s d m b)
 | d, 0, m, b, deep, _, _, h => by omega
 | 0, k + 1, m, b, deep, _, h, _ => by
  rw [decode_message, decode_message.body, if_pos (by omega)]; rfl
 | d + 1, k + 1, m, b, deep, h10, hd, hk => by
  rw [decode_message, decode_message.body, if_neg (by omega), getD_eq, bS, decM]
  by_cases h0 : (getD b).2 = 0
  · rw [if_pos h0, if_pos h0]
    obtain ⟨hb, hl, hok⟩ := getD_ok h0
    have hlen : (getD b).1.length < 100000 := by
     have := zt4 (getD b).1
     rw [← hb] at this; omega
    refine fldD_eq ?_ ?_ List.Pairwise.nil (fun _ h => by cases h) (by rw [lZ]; omega) (by rw [lZ]; omega)
    · intro r hr
      have := zE1 (hok r hr).1
      exact ⟨this.1, this.2.1⟩
    · intro r hr y
      obtain ⟨k', rfl⟩ : ∃ k', k = k' + 1 := ⟨k - 1, by omega⟩
      rw [decode_one]
      have hc := (zE1 (hok r hr).1).2.2
      have hbl : r.fB.length ≤ 4096 := by
       rcases hc with ⟨_, hc⟩ | ⟨_, _, hc⟩
       · rw [hc]; decide
       · exact hc
      refine oneD_eq (by rcases hc with hc | hc; exact Or.inl hc.1; exact Or.inr hc.1) hbl (by omega) (by omega) ?_
      exact zR2 s d k' _ _ _ (by omega) (by omega) (by omega)
  · rw [if_neg h0, if_neg h0]; rfl
theorem decode_eq {s : GSchema} {name b : List UInt8} (hc : check_Check s = some 0) (hm : (check_Message s name).2 = true) : decode_Decode s name b = some (decM s 10 (zw4 s name) b) := by
 rw [decode_Decode, hc, bS, if_pos rfl, bnd, hm, if_neg (by decide), zR2 s 10 rounds _ b 1 (nR _) rfl (by have := zd1; omega), bS]; rfl
end Go.Proofs.YtaddlmlpeghonaaDoor
end
section
set_option maxRecDepth 4000
namespace Go.Proofs.YtaddlmlpeghonaaDoor
open AM
def maxD (f : GTree → Nat) : List GTree → Nat → Nat
 | [], d => d
 | x :: l, d => maxD f l (max d (f x))
theorem maxD_ge {f : GTree → Nat} : ∀ (l : List GTree) (d : Nat), d ≤ maxD f l d
 | [], d => nR _
 | x :: l, d => Nat.le_trans (Nat.le_max_left _ _) (maxD_ge l _)
theorem maxD_mem {f : GTree → Nat} {x : GTree} : ∀ {l : List GTree} {d : Nat}, x ∈ l → f x ≤ maxD f l d
 | y :: l, d, h => by
  rw [maxD]
  rcases mI.1 h with rfl | h
  · exact Nat.le_trans (Nat.le_max_right _ _) (maxD_ge l _)
  · exact maxD_mem h
theorem zv5 {f : GTree → Nat} {n : Nat} : ∀ {l : List GTree} {d : Nat}, d ≤ n → (∀ x ∈ l, f x ≤ n) → maxD f l d ≤ n
 | [], d, h, _ => h
 | x :: l, d, h, hl => zv5 (l := l) (Nat.max_le.2 ⟨h, hl x (mS ..)⟩) fun y hy => hl y (mO _ hy)
theorem maxD_app (f : GTree → Nat) : ∀ (l m : List GTree) (d : Nat), maxD f (l ++ m) d = maxD f m (maxD f l d)
 | [], _, _ => rfl
 | x :: l, m, d => maxD_app f l m _
def kids (t : GTree) : List GTree := t.fEntries.flatMap GEntry.fTrees
def depT : Nat → GTree → Nat
 | 0, _ => 0
 | m + 1, t => if t.fKind = 3 then maxD (depT m) (kids t) 0 + 1 else 0
theorem depT_le : ∀ (m : Nat) (t : GTree), depT m t ≤ m
 | 0, _ => nR _
 | m + 1, t => by
  rw [depT]; split
  · exact Nat.succ_le_succ (zv5 (Nat.zero_le _) fun x _ => depT_le m x)
  · exact Nat.zero_le _
theorem deep_l20 {self : GTree → Int → Option Int} {m : Nat} (hm : m < 1000) (hs : ∀ x, self x (m : Int) = some ((depT m x : Nat) : Int)) {x7 : Int} {rec10 : Int → Int → Option Int} : ∀ (l : List GTree) (i : Int) (d : Nat),
 value_deep.l20 self ((m + 1 : Nat) : Int) x7 rec10 l i (d : Int) = rec10 (x7 + 1) ((maxD (depT m) l d : Nat) : Int)
 | [], i, d => rfl
 | x :: l, i, d => by
  rw [value_deep.l20, show IntKind.i64.wrap (((m + 1 : Nat) : Int) - 1) = (m : Int) by rw [zW (by omega) (by omega)]; omega, hs, bS, maxD]
  have e : (if (d : Int) < ((depT m x : Nat) : Int) then ((depT m x : Nat) : Int) else (d : Int)) = ((max d (depT m x) : Nat) : Int) := by split <;> omega
  rw [e]; exact deep_l20 hm hs l _ _
theorem deep_l10 {self : GTree → Int → Option Int} {m : Nat} (hm : m < 1000) (hs : ∀ x, self x (m : Int) = some ((depT m x : Nat) : Int)) : ∀ (l : List GEntry) (i : Int) (d : Nat), d ≤ 1000 →
 value_deep.l10 self ((m + 1 : Nat) : Int) l i (d : Int) = some ((maxD (depT m) (l.flatMap GEntry.fTrees) d + 1 : Nat) : Int)
 | [], i, d, hd => by
  rw [value_deep.l10, zW (by omega) (by omega), fZ, maxD]; rfl
 | e :: l, i, d, hd => by
  rw [value_deep.l10, deep_l20 hm hs, deep_l10 hm hs l _ _ (zv5 hd fun x _ => Nat.le_trans (depT_le m x) (by omega)), fC, maxD_app]
theorem deep_eq : ∀ (m k : Nat) (t : GTree), m < 1000 → m < k → value_deep k t (m : Int) = some ((depT m t : Nat) : Int)
 | m, 0, t, _, h => by omega
 | 0, k + 1, t, _, _ => by
  rw [value_deep, value_deep.body, if_pos (by simp)]; rfl
 | m + 1, k + 1, t, hm, hk => by
  rw [value_deep, value_deep.body, depT]
  by_cases h3 : t.fKind = 3
  · rw [if_neg (by simp only [h3, decide_true, Bool.not_true, Bool.false_or, decide_eq_true_eq]; omega), if_pos h3]
    exact deep_l10 (by omega) (fun x => deep_eq m k x (by omega) (by omega)) t.fEntries 0 0 (by omega)
  · rw [if_pos (by simp [h3]), if_neg h3]; rfl
theorem Depth_eq (t : GTree) : value_Depth t = some ((depT 101 t : Nat) : Int) := by
 rw [value_Depth, show (101 : Int) = ((101 : Nat) : Int) from rfl, deep_eq 101 rounds t (by omega) (by have := zd1; omega)]; rfl
def risB : List GRaw → Bool
 | a :: b :: l => decide (a.fTag ≤ b.fTag) && risB (b :: l)
 | _ => true
theorem risB_iff : ∀ {l : List GRaw}, risB l = true ↔ l.Pairwise TagLe
 | [] => by simp [risB]
 | [a] => by simp [risB]
 | a :: b :: l => by
  rw [risB, Bool.and_eq_true, decide_eq_true_eq, risB_iff, pC (a := a)]
  constructor
  · rintro ⟨h1, h2⟩
    refine ⟨?_, h2⟩
    intro c hc
    rcases mI.1 hc with rfl | hc
    · exact h1
    · have := (pC.1 h2).1 c hc; unfold TagLe at *; omega
  · rintro ⟨h1, h2⟩
    exact ⟨h1 b (mS ..), h2⟩
theorem rising_l {L : List GRaw} (hL : L.length < 4611686018427387904) : ∀ (k : Nat) (A : List GRaw) (a : GRaw) (B : List GRaw), L = A ++ a :: B → B.length < k → wire_Rising.l4 L k ((A.length + 1 : Nat) : Int) = some (risB (a :: B))
 | 0, _, _, _, _, h => by omega
 | k + 1, A, a, [], h, _ => by
  rw [wire_Rising.l4, if_neg (by rw [h, lP, List.length_singleton]; omega)]; rfl
 | k + 1, A, a, b :: B, h, hk => by
  have hl : L.length = A.length + (B.length + 2) := by rw [h, lP, lC, lC]
  have e1 : idxL L ((A.length + 1 : Nat) : Int) = some b := by
   rw [h, show A ++ a :: b :: B = (A ++ [a]) ++ b :: B by rw [aA]; rfl]
   exact zs2 (by rw [lP, List.length_singleton])
  have e2 : IntKind.i64.wrap (((A.length + 1 : Nat) : Int) - 1) = (A.length : Int) := by rw [zW (by omega) (by omega)]; omega
  have e3 : idxL L (A.length : Int) = some a := by rw [h]; exact zs2 rfl
  have e4 : IntKind.i64.wrap (((A.length + 1 : Nat) : Int) + 1) = (((A ++ [a]).length + 1 : Nat) : Int) := by rw [zW (by omega) (by omega), lP, List.length_singleton]; omega
  rw [wire_Rising.l4, if_pos (by omega), e1, bS, e2, e3, bS, risB]
  by_cases hlt : b.fTag < a.fTag
  · rw [if_pos hlt, decide_eq_false (by omega)]; rfl
  · rw [if_neg hlt, e4, rising_l hL k (A ++ [a]) b B (by rw [h, aA]; rfl) (by simpa using hk), decide_eq_true (by omega), Bool.true_and]
theorem rising_eq {l : List GRaw} (h : l.length < 4611686018427387904) : wire_Rising l = some (risB l) := by
 cases l with
 | nil => rfl
 | cons a l => exact rising_l h rounds [] a l rfl (by have := zd1; rw [lC] at h; omega)
def restB (t : GTree) : Bool := t.fRest.all (fun r => wire_Check r && !(t.fEntries.any fun e => decide (e.fTag = r.fTag))) && risB t.fRest
theorem rest_l16 {x2 : Int} {rec4 : Int → Option Bool} {y : GRaw} : ∀ (l : List GEntry) (i : Int), value_rest.l16 x2 rec4 y l i = if (l.any fun e => decide (e.fTag = y.fTag)) = true then some false else rec4 (x2 + 1)
 | [], i => by rw [value_rest.l16]; rfl
 | e :: l, i => by
  rw [value_rest.l16, List.any_cons]
  by_cases h : e.fTag = y.fTag
  · rw [if_pos h, decide_eq_true h, Bool.true_or, if_pos rfl]
  · rw [if_neg h, decide_eq_false h, Bool.false_or, rest_l16]
theorem rest_l4 {t : GTree} (hr : t.fRest.length < 4611686018427387904) : ∀ (l : List GRaw) (i : Int), value_rest.l4 t l i = some (l.all (fun r => wire_Check r && !(t.fEntries.any fun e => decide (e.fTag = r.fTag))) && risB t.fRest)
 | [], i => by rw [value_rest.l4, rising_eq hr]; rfl
 | r :: l, i => by
  rw [value_rest.l4, bnd, List.all_cons]
  cases hc : wire_Check r with
  | false => rfl
  | true =>
   rw [if_neg (by decide), rest_l16]
   cases ha : t.fEntries.any fun e => decide (e.fTag = r.fTag) with
   | true => rfl
   | false => rw [if_neg (by decide), rest_l4 hr l]; rfl
theorem rest_eq {t : GTree} (hr : t.fRest.length < 4611686018427387904) : value_rest t = some (restB t) := rest_l4 hr _ _
def entB (f : GTree → Bool) : Int → List GEntry → Bool
 | _, [] => true
 | last, e :: l => decide (last < e.fTag ∧ e.fTag ≤ 500 ∧ 1 ≤ e.fTrees.length ∧ e.fTrees.length ≤ 64) && (e.fTrees.all fun x => decide (x.fKind = (e.fTrees.headD zi2).fKind) && f x) && entB f e.fTag l
def leafB (t : GTree) : Bool :=
 if t.fKind = 1 then decide (t.fS = []) && decide ((lN t.fEntries : Int) = 0) && decide ((lN t.fRest : Int) = 0)
 else if t.fKind = 2 then decide (t.fN = 0) && decide ((lN t.fEntries : Int) = 0) && decide ((lN t.fRest : Int) = 0)
 else false
def zn1 : Nat → GTree → Bool
 | 0, t => leafB t
 | d + 1, t => if t.fKind = 3 then decide (t.fN = 0) && decide (t.fS = []) && entB (zn1 d) 0 t.fEntries && restB t else leafB t
def ownS (t : GTree) : Prop := In64 t.fN ∧ t.fRest.length ≤ 900000 ∧ ∀ r ∈ t.fRest, In64 r.fN
def szT : Nat → GTree → Prop
 | 0, t => ownS t
 | d + 1, t => ownS t ∧ ∀ x ∈ kids t, szT d x
theorem zE5 {self : GTree → Option Bool} {f : GTree → Bool} {x3 : Int} {rec6 : Int → Int → Option Bool} {y : GEntry} (hy : 1 ≤ y.fTrees.length) : ∀ (l : List GTree) (i : Int), (∀ x ∈ l, self x = some (f x)) →
 value_entries.l18 self x3 rec6 y l i = if (l.all fun x => decide (x.fKind = (y.fTrees.headD zi2).fKind) && f x) = true then rec6 (x3 + 1) y.fTag else some false
 | [], i, _ => by rw [value_entries.l18]; rfl
 | x :: l, i, h => by
  have e1 : idxL y.fTrees 0 = some (y.fTrees.headD zi2) := by
   cases ht : y.fTrees with
   | nil => rw [ht] at hy; exact absurd hy (by decide)
   | cons a l => rfl
  rw [value_entries.l18, e1, bS, List.all_cons]
  by_cases hk : x.fKind = (y.fTrees.headD zi2).fKind
  · rw [if_pos hk, h x (mS ..), bS, decide_eq_true hk, Bool.true_and]
    cases f x with
    | false => rfl
    | true =>
     rw [value_entries.j25, if_neg (by decide), zE5 hy l _ fun z hz => h z (mO _ hz), Bool.true_and]
  · rw [if_neg hk, decide_eq_false hk]; rfl
theorem entries_l6 {self : GTree → Option Bool} {f : GTree → Bool} : ∀ (l : List GEntry) (i last : Int), (∀ e ∈ l, ∀ x ∈ e.fTrees, self x = some (f x)) → value_entries.l6 self l i last = some (entB f last l)
 | [], i, last, _ => rfl
 | e :: l, i, last, h => by
  rw [value_entries.l6, entB]
  by_cases hc : last < e.fTag ∧ e.fTag ≤ 500 ∧ 1 ≤ e.fTrees.length ∧ e.fTrees.length ≤ 64
  · rw [if_neg (by simp only [Bool.or_eq_true, decide_eq_true_eq]; omega), zE5 hc.2.2.1 e.fTrees 0 (h e (mS ..)), decide_eq_true hc, Bool.true_and]
    cases ha : e.fTrees.all fun x => decide (x.fKind = (e.fTrees.headD zi2).fKind) && f x with
    | false => rfl
    | true => rw [if_pos rfl, entries_l6 l _ _ fun y hy => h y (mO _ hy), Bool.true_and]
  · rw [if_pos (by simp only [Bool.or_eq_true, decide_eq_true_eq]; omega), decide_eq_false hc]; rfl
theorem zg2 {t : GTree} {e : GEntry} {x : GTree} (he : e ∈ t.fEntries) (hx : x ∈ e.fTrees) : x ∈ kids t := List.mem_flatMap.2 ⟨e, he, hx⟩
theorem right_eq : ∀ (d m k : Nat) (t : GTree), d < m → depT m t ≤ d → 2 * d < k → szT d t → value_right k t = some (zn1 d t)
 | d, m, 0, t, _, _, h, _ => by omega
 | 0, m + 1, k + 1, t, _, hd, _, hz => by
  have h3 : ¬ t.fKind = 3 := by
   intro h; rw [depT, if_pos h] at hd; omega
  rw [value_right, value_right.body, zn1, leafB, if_neg h3]
  split <;> first | rfl | (split <;> rfl)
 | d + 1, m + 1, k + 1, t, hm, hd, hk, hz => by
  rw [value_right, value_right.body, zn1]
  by_cases h3 : t.fKind = 3
  · have hd' : maxD (depT m) (kids t) 0 ≤ d := by rw [depT, if_pos h3] at hd; omega
    obtain ⟨k', rfl⟩ : ∃ k', k = k' + 1 := ⟨k - 1, by omega⟩
    have he : value_entries (k' + 1) t = some (entB (zn1 d) 0 t.fEntries) := by
     rw [value_entries, value_entries.body]
     exact entries_l6 t.fEntries 0 0 fun e he x hx => right_eq d m k' x (by omega) (Nat.le_trans (maxD_mem (zg2 he hx)) hd') (by omega) (hz.2 x (zg2 he hx))
    rw [if_neg (by omega), if_neg (by omega), if_pos h3, if_pos h3, he, rest_eq (by have := hz.1.2.1; omega)]
    cases decide (t.fN = 0) && decide (t.fS = []) with
    | false => rfl
    | true => cases entB (zn1 d) 0 t.fEntries <;> rfl
  · rw [if_neg h3, if_neg h3, leafB]
    split <;> first | rfl | (split <;> rfl)
def zZ1 (t : GTree) : Bool := decide (depT 101 t ≤ 10) && zn1 10 t
theorem check_eq {t : GTree} (hz : szT 10 t) : value_Check t = some (zZ1 t) := by
 rw [value_Check, Depth_eq, bS, zZ1]
 by_cases h : depT 101 t ≤ 10
 · rw [if_pos (by omega), right_eq 10 101 rounds t (by omega) h (by have := zd1; omega) hz, decide_eq_true h, Bool.true_and]; rfl
 · rw [if_neg (by omega), decide_eq_false h]; rfl
end Go.Proofs.YtaddlmlpeghonaaDoor
end
section
set_option maxRecDepth 4000
namespace Go.Proofs.YtaddlmlpeghonaaDoor
open AM
theorem in0 : In64 0 := ⟨by decide, by decide⟩
def rawT (enc : GTree → Option (List UInt8)) (tag : Int) (x : GTree) : Option GRaw :=
 if x.fKind = 1 then some ⟨tag, 0, x.fN, []⟩
 else if x.fKind = 2 then (if 4096 < x.fS.length then none else some ⟨tag, 1, 0, x.fS⟩)
 else (enc x).bind fun b => some ⟨tag, 1, 0, b⟩
def rawL (enc : GTree → Option (List UInt8)) (tag : Int) : List GTree → Option (List GRaw)
 | [] => some []
 | x :: l => (rawT enc tag x).bind fun r => (rawL enc tag l).bind fun m => some (r :: m)
def rawE (enc : GTree → Option (List UInt8)) : List GEntry → Option (List GRaw)
 | [] => some []
 | e :: l => (rawL enc e.fTag e.fTrees).bind fun a => (rawE enc l).bind fun m => some (a ++ m)
def putB (l : List GRaw) : Option (List UInt8) := if 4096 < (zY l).length then none else some (zY l)
def encT : Nat → GTree → Option (List UInt8)
 | 0, _ => none
 | d + 1, t => (rawE (encT d) t.fEntries).bind fun L => putB (srt (t.fRest ++ L))
def valT : Nat → GTree → GValueValue
 | 0, t => if t.fKind = 1 then .num t.fN else if t.fKind = 2 then .str t.fS else .node [] t.fRest
 | d + 1, t => if t.fKind = 1 then .num t.fN else if t.fKind = 2 then .str t.fS else .node (t.fEntries.map fun e => ⟨e.fTag, e.fTrees.map (valT d)⟩) t.fRest
theorem made_l62 {self : GTree → Option GValueValue} {f : GTree → GValueValue} {t : GTree} {r12 : List GRaw} {y : GEntry} : ∀ (l : List GTree) (i : Int) (acc : List GValueValue), (∀ x ∈ l, self x = some (f x)) → acc.length + l.length ≤ 64 →
 value_made.l62 self t r12 y l i acc = value_made.l20 self t r12 rounds [⟨y.fTag, acc ++ l.map f⟩] 1
 | [], i, acc, _, _ => by
  rw [value_made.l62, mN, aN, zW (by decide) (by decide)]; rfl
 | x :: l, i, acc, h, hl => by
  rw [lC] at hl
  rw [value_made.l62, h x (mS ..), bS, zp1 (by omega), bS, made_l62 l _ _ (fun z hz => h z (mO _ hz)) (by rw [lP, List.length_singleton]; omega), aA]; rfl
theorem made_l35 {self : GTree → Option GValueValue} {f : GTree → GValueValue} {l14 : List GValueEntry} {x16 : Int} {rec20 : List GValueEntry → Int → Option GValueValue} {y : GEntry} (hl14 : l14.length ≤ 1000) : ∀ (l : List GTree) (i : Int) (acc : List GValueValue), (∀ x ∈ l, self x = some (f x)) → acc.length + l.length ≤ 64 →
 value_made.l35 self l14 x16 rec20 y l i acc = rec20 (l14 ++ [⟨y.fTag, acc ++ l.map f⟩]) (IntKind.i64.wrap (x16 + 1))
 | [], i, acc, _, _ => by
  rw [value_made.l35, mN, aN, zp1 (by omega), bS]
 | x :: l, i, acc, h, hl => by
  rw [lC] at hl
  rw [value_made.l35, h x (mS ..), bS, zp1 (by omega), bS, made_l35 hl14 l _ _ (fun z hz => h z (mO _ hz)) (by rw [lP, List.length_singleton]; omega), aA]; rfl
def entV (f : GTree → GValueValue) (e : GEntry) : GValueEntry := ⟨e.fTag, e.fTrees.map f⟩
theorem made_l20 {self : GTree → Option GValueValue} {f : GTree → GValueValue} {t : GTree} {r12 : List GRaw} (hn : t.fEntries.length ≤ 1000) (hs : ∀ e ∈ t.fEntries, e.fTrees.length ≤ 64 ∧ ∀ x ∈ e.fTrees, self x = some (f x)) : ∀ (k : Nat) (A B : List GEntry), t.fEntries = A ++ B → B.length < k →
 value_made.l20 self t r12 k (A.map (entV f)) (A.length : Int) = some (.node (t.fEntries.map (entV f)) r12)
 | 0, A, B, _, h => by omega
 | k + 1, A, [], h, _ => by
  rw [aN] at h
  rw [value_made.l20, if_neg (by rw [h]; omega), h]
 | k + 1, A, e :: B, h, hk => by
  rw [lC] at hk
  have hl : t.fEntries.length = A.length + (B.length + 1) := by rw [h, lP, lC]
  have he := hs e (by rw [h]; exact List.mem_append_right _ (mS ..))
  have ei : idxL t.fEntries (A.length : Int) = some e := by rw [h]; exact zs2 rfl
  rw [value_made.l20, if_pos (by omega), ei, bS, made_l35 (f := f) (by rw [lM]; omega) e.fTrees 0 [] he.2 (by rw [lZ]; omega), zW (by omega) (by omega)]
  have := made_l20 (self := self) (f := f) (r12 := r12) hn hs k (A ++ [e]) B (by rw [h, aA]; rfl) (by omega)
  rw [mP, lP, List.length_singleton] at this
  rw [show (A.length : Int) + 1 = ((A.length + 1 : Nat) : Int) by omega]
  exact this
theorem zm2 {f : GTree → Bool} : ∀ {l : List GEntry} {last : Int}, entB f last l = true → ∀ e ∈ l, last < e.fTag ∧ e.fTag ≤ 500 ∧ 1 ≤ e.fTrees.length ∧ e.fTrees.length ≤ 64 ∧ (∀ x ∈ e.fTrees, x.fKind = (e.fTrees.headD zi2).fKind ∧ f x = true)
 | [], _, _, e, he => by cases he
 | a :: l, last, h, e, he => by
  rw [entB, Bool.and_eq_true, Bool.and_eq_true, decide_eq_true_eq] at h
  rcases mI.1 he with rfl | he
  · refine ⟨h.1.1.1, h.1.1.2.1, h.1.1.2.2.1, h.1.1.2.2.2, fun x hx => ?_⟩
    have := List.all_eq_true.1 h.1.2 x hx
    rw [Bool.and_eq_true, decide_eq_true_eq] at this
    exact this
  · obtain ⟨h1, h2⟩ := zm2 h.2 e he
    exact ⟨by omega, h2⟩
theorem za3 {f : GTree → Bool} : ∀ {l : List GEntry} {last : Int}, entB f last l = true → l.Pairwise ze3
 | [], _, _ => List.Pairwise.nil
 | a :: l, last, h => by
  rw [entB, Bool.and_eq_true, Bool.and_eq_true] at h
  rw [pC]
  exact ⟨fun e he => (zm2 h.2 e he).1, za3 h.2⟩
theorem sorted_len {n : Nat} : ∀ {l : List GEntry} {lo : Int}, l.Pairwise ze3 → (∀ e ∈ l, lo < e.fTag ∧ e.fTag ≤ lo + n) → l.length ≤ n
 | [], _, _, _ => Nat.zero_le _
 | a :: l, lo, h, hl => by
  rw [pC] at h
  have ha := hl a (mS ..)
  cases n with
  | zero => omega
  | succ n =>
   rw [lC]
   refine Nat.succ_le_succ (sorted_len (n := n) (lo := lo + 1) h.2 fun e he => ?_)
   have h1 := h.1 e he
   have h2 := hl e (mO _ he)
   unfold ze3 at h1; omega
theorem zE3 {d : Nat} {t : GTree} (h : zn1 (d + 1) t = true) (h3 : t.fKind = 3) : t.fEntries.length ≤ 500 ∧ entB (zn1 d) 0 t.fEntries = true ∧ restB t = true ∧ t.fN = 0 ∧ t.fS = [] := by
 rw [zn1, if_pos h3] at h
 simp only [Bool.and_eq_true, decide_eq_true_eq] at h
 refine ⟨?_, h.1.2, h.2, h.1.1.1, h.1.1.2⟩
 exact sorted_len (n := 500) (lo := 0) (za3 h.1.2) fun e he => by
  have := zm2 h.1.2 e he; omega
theorem zu3 {t : GTree} (h : leafB t = true) : t.fKind = 1 ∨ t.fKind = 2 := by
 unfold leafB at h
 split at h
 · exact Or.inl ‹_›
 · split at h
   · exact Or.inr ‹_›
   · cases h
theorem zD3 {d : Nat} {t : GTree} (h : zn1 d t = true) : t.fKind = 1 ∨ t.fKind = 2 ∨ t.fKind = 3 := by
 cases d with
 | zero => rcases zu3 h with h | h; exact Or.inl h; exact Or.inr (Or.inl h)
 | succ d =>
  rw [zn1] at h
  split at h
  · exact Or.inr (Or.inr ‹_›)
  · rcases zu3 h with h | h; exact Or.inl h; exact Or.inr (Or.inl h)
theorem made_eq : ∀ (d k : Nat) (t : GTree), d < k → zn1 d t = true → szT d t → value_made k t = some (valT d t)
 | d, 0, t, h, _, _ => by omega
 | 0, k + 1, t, _, hr, _ => by
  rw [value_made, value_made.body, valT]
  rcases zu3 hr with h | h
  · rw [if_pos h, if_pos h]; rfl
  · rw [if_neg (by omega), if_pos h, if_neg (by omega), if_pos h]; rfl
 | d + 1, k + 1, t, hk, hr, hz => by
  rw [value_made, value_made.body, valT]
  by_cases h1 : t.fKind = 1
  · rw [if_pos h1, if_pos h1]; rfl
  · by_cases h2 : t.fKind = 2
    · rw [if_neg h1, if_pos h2, if_neg h1, if_pos h2]; rfl
    · have h3 : t.fKind = 3 := by rcases zD3 hr with h | h | h <;> omega
      obtain ⟨hl, he, _, _, _⟩ := zE3 hr h3
      have hs : ∀ e ∈ t.fEntries, e.fTrees.length ≤ 64 ∧ ∀ x ∈ e.fTrees, value_made k x = some (valT d x) := fun e hm => by
       have := zm2 he e hm
       exact ⟨this.2.2.2.1, fun x hx => made_eq d k x (by omega) (this.2.2.2.2 x hx).2 (hz.2 x (zg2 hm hx))⟩
      rw [if_neg h1, if_neg h2, if_neg h1, if_neg h2, slices_Clone_Raw, zp1 (by have := hz.1.2.1; omega), bS, bS]
      cases hE : t.fEntries with
      | nil => rfl
      | cons a E =>
       rw [if_pos (by rw [lC]; omega)]
       have ha := hs a (by rw [hE]; exact mS ..)
       rw [idx_t (Int.le_refl 0) (show (a :: E)[Int.toNat 0]? = some a from rfl), bS, made_l62 (f := valT d) a.fTrees 0 [] ha.2 (by rw [lZ]; omega)]
       have := made_l20 (self := value_made k) (f := valT d) (r12 := t.fRest) (by omega) hs rounds [a] E (by rw [hE]; rfl) (by have := zd1; rw [hE, lC] at hl; omega)
       rw [hE] at this
       exact this
theorem of_eq {t : GTree} (hz : szT 10 t) : value_Of t = some (if zZ1 t = true then (valT 10 t, true) else (.nil, false)) := by
 rw [value_Of, check_eq hz, bS]
 by_cases h : zZ1 t = true
 · rw [h]
   have hr : zn1 10 t = true := by unfold zZ1 at h; rw [Bool.and_eq_true] at h; exact h.2
   rw [if_neg (by decide), made_eq 10 rounds t (by have := zd1; omega) hr hz]; rfl
 · rw [if_pos (by simpa using h), if_neg h]
theorem tags_l8 : ∀ (l : List GValueEntry) (i : Int) (acc : List Int), acc.length + l.length ≤ 1000 → value_Node_Tags.l8 l i acc = some (acc ++ l.map GValueEntry.ftag)
 | [], i, acc, _ => by rw [value_Node_Tags.l8, mN, aN]
 | e :: l, i, acc, h => by
  rw [lC] at h
  rw [value_Node_Tags.l8, zp1 (by omega), bS, tags_l8 l _ _ (by rw [lP, List.length_singleton]; omega), aA]; rfl
theorem get_l4 {f : GTree → GValueValue} {e : GEntry} {B : List GEntry} (he : e.fTrees.length ≤ 64) : ∀ (A : List GEntry) (i : Int), (∀ a ∈ A, a.fTag ≠ e.fTag) → value_Node_Get.l4 e.fTag ((A ++ e :: B).map (entV f)) i = some (e.fTrees.map f)
 | [], i, _ => by
  rw [nA, mC, value_Node_Get.l4, if_pos (show (entV f e).ftag = e.fTag from rfl), show (entV f e).fl = e.fTrees.map f from rfl, slices_Clone_Value, zp1 (by rw [lM]; omega)]; rfl
 | a :: A, i, h => by
  rw [cA, mC, value_Node_Get.l4, if_neg (show ¬ (entV f a).ftag = e.fTag from h a (mS ..))]
  exact get_l4 he A _ fun b hb => h b (mO _ hb)
theorem rawL_len {enc : GTree → Option (List UInt8)} {tag : Int} : ∀ {l : List GTree} {m : List GRaw}, rawL enc tag l = some m → m.length = l.length
 | [], m, h => by cases h; rfl
 | x :: l, m, h => by
  obtain ⟨r, _, h⟩ := bind_some h
  obtain ⟨m', h1, h⟩ := bind_some h
  cases h
  rw [lC, lC, rawL_len h1]
def zK2 (o : Option (List GRaw)) (k : List GRaw → Option (List GRaw × Int)) : Option (List GRaw × Int) :=
 match o with
 | some m => k m
 | none => some ([], 4)
theorem raws_l24 {selfR : Int → GValueValue → Option (GRaw × Int)} {f : GTree → GValueValue} {enc : GTree → Option (List UInt8)} {x6 : Int} {rec10 : Int → List GRaw → Option (List GRaw × Int)} {tag : Int} : ∀ (l : List GTree) (i : Int) (acc : List GRaw), (∀ x ∈ l, selfR tag (f x) = some (match rawT enc tag x with | some r => (r, 0) | none => (⟨0, 0, 0, []⟩, 4))) → acc.length + l.length < 3518437208882 →
 encode_raws.l24 selfR x6 rec10 tag (l.map f) i acc = zK2 (rawL enc tag l) fun m => rec10 (x6 + 1) (acc ++ m)
 | [], i, acc, _, _ => by rw [mN, encode_raws.l24, rawL, zK2, aN]
 | x :: l, i, acc, h, hl => by
  rw [lC] at hl
  rw [mC, encode_raws.l24, h x (mS ..), bS, rawL]
  cases hx : rawT enc tag x with
  | none => rfl
  | some r =>
   dsimp only
   rw [if_pos rfl, zp1 (by omega), bS, raws_l24 l _ _ (fun z hz => h z (mO _ hz)) (by rw [lP, List.length_singleton]; omega), bS]
   cases rawL enc tag l with
   | none => rfl
   | some m => simp only [zK2, bS, aA, cA, nA]
theorem raws_l10 {selfR : Int → GValueValue → Option (GRaw × Int)} {f : GTree → GValueValue} {enc : GTree → Option (List UInt8)} {E : List GEntry} {rest : List GRaw} (hs : E.Pairwise ze3) (ht : ∀ e ∈ E, e.fTrees.length ≤ 64 ∧ ∀ x ∈ e.fTrees, selfR e.fTag (f x) = some (match rawT enc e.fTag x with | some r => (r, 0) | none => (⟨0, 0, 0, []⟩, 4))) (hn : E.length ≤ 500) :
 ∀ (B A : List GEntry) (i : Int) (acc : List GRaw), E = A ++ B → acc.length ≤ 900000 + 64 * A.length → encode_raws.l10 selfR ⟨E.map (entV f), rest⟩ (B.map GEntry.fTag) i acc = zK2 (rawE enc B) fun m => some (srt (acc ++ m), 0)
 | [], A, i, acc, h, ha => by
  have hl : E.length = A.length := by rw [h, aN]
  rw [mN, encode_raws.l10, sorted_eq (by omega), rawE, zK2, aN]; rfl
 | e :: B, A, i, acc, h, ha => by
  have hl : E.length = A.length + (B.length + 1) := by rw [h, lP, lC]
  have he := ht e (by rw [h]; exact List.mem_append_right _ (mS ..))
  have hA : ∀ a ∈ A, a.fTag ≠ e.fTag := fun a hm => by
   rw [h] at hs
   have := (List.pairwise_append.1 hs).2.2 a hm e (mS ..)
   unfold ze3 at this; omega
  have hg : value_Node_Get ⟨E.map (entV f), rest⟩ e.fTag = some (e.fTrees.map f) := by
   rw [value_Node_Get, h]; exact get_l4 he.1 A 0 hA
  rw [mC, encode_raws.l10, hg, bS, raws_l24 (enc := enc) e.fTrees 0 acc he.2 (by omega), rawE]
  cases hL : rawL enc e.fTag e.fTrees with
  | none => rfl
  | some m =>
   have hm := rawL_len hL
   rw [zK2, raws_l10 hs ht hn B (A ++ [e]) _ _ (by rw [h, aA]; rfl) (by rw [lP, lP, List.length_singleton]; omega), bS]
   cases rawE enc B with
   | none => rfl
   | some m' => simp only [zK2, bS, aA]
end Go.Proofs.YtaddlmlpeghonaaDoor
end
section
set_option maxRecDepth 4000
namespace Go.Proofs.YtaddlmlpeghonaaDoor
open AM
theorem putB_some {l : List GRaw} {b : List UInt8} (h : putB l = some b) : b = zY l ∧ b.length ≤ 4096 := by
 unfold putB at h
 split at h
 · cases h
 · cases h; exact ⟨rfl, by omega⟩
theorem encT_le {d : Nat} {t : GTree} {b : List UInt8} (h : encT d t = some b) : b.length ≤ 4096 := by
 cases d with
 | zero => cases h
 | succ d =>
  rw [encT] at h
  obtain ⟨L, _, h⟩ := bind_some h
  exact (putB_some h).2
theorem rawT_ok {d : Nat} {tag : Int} {x : GTree} {r : GRaw} (h1 : 1 ≤ tag) (h2 : tag ≤ 500) (hx : In64 x.fN) (h : rawT (encT d) tag x = some r) : zb2 r ∧ r.fTag = tag := by
 unfold rawT at h
 split at h
 · cases h; exact ⟨⟨check_num h1 h2, hx⟩, rfl⟩
 · split at h
   · split at h
     · cases h
     · cases h; exact ⟨⟨zA4 h1 h2 (by omega), in0⟩, rfl⟩
   · obtain ⟨b, hb, h⟩ := bind_some h
     cases h; exact ⟨⟨zA4 h1 h2 (encT_le hb), in0⟩, rfl⟩
theorem rawL_ok {d : Nat} {tag : Int} (h1 : 1 ≤ tag) (h2 : tag ≤ 500) : ∀ {l : List GTree} {m : List GRaw}, (∀ x ∈ l, In64 x.fN) → rawL (encT d) tag l = some m → ∀ r ∈ m, zb2 r ∧ r.fTag = tag
 | [], m, _, h, r, hr => by cases h; cases hr
 | x :: l, m, hx, h, r, hr => by
  obtain ⟨a, ha, h⟩ := bind_some h
  obtain ⟨m', hm, h⟩ := bind_some h
  cases h
  rcases mI.1 hr with rfl | hr
  · exact rawT_ok h1 h2 (hx x (mS ..)) ha
  · exact rawL_ok h1 h2 (fun z hz => hx z (mO _ hz)) hm r hr
theorem rawE_ok {d : Nat} : ∀ {l : List GEntry} {m : List GRaw}, (∀ e ∈ l, 1 ≤ e.fTag ∧ e.fTag ≤ 500 ∧ ∀ x ∈ e.fTrees, In64 x.fN) → rawE (encT d) l = some m → ∀ r ∈ m, zb2 r ∧ ∃ e ∈ l, r.fTag = e.fTag
 | [], m, _, h, r, hr => by cases h; cases hr
 | e :: l, m, hx, h, r, hr => by
  obtain ⟨a, ha, h⟩ := bind_some h
  obtain ⟨m', hm, h⟩ := bind_some h
  cases h
  have he := hx e (mS ..)
  rcases mA.1 hr with hr | hr
  · have := rawL_ok he.1 he.2.1 he.2.2 ha r hr
    exact ⟨this.1, e, mS .., this.2⟩
  · obtain ⟨h1, e', h2, h3⟩ := rawE_ok (fun z hz => hx z (mO _ hz)) hm r hr
    exact ⟨h1, e', mO _ h2, h3⟩
theorem szT_own {d : Nat} {t : GTree} (h : szT d t) : ownS t := by
 cases d with
 | zero => exact h
 | succ d => exact h.1
theorem restB_mem {t : GTree} (h : restB t = true) : (∀ r ∈ t.fRest, wire_Check r = true ∧ ∀ e ∈ t.fEntries, e.fTag ≠ r.fTag) ∧ t.fRest.Pairwise TagLe := by
 unfold restB at h
 rw [Bool.and_eq_true] at h
 refine ⟨fun r hr => ?_, risB_iff.1 h.2⟩
 have := List.all_eq_true.1 h.1 r hr
 rw [Bool.and_eq_true, Bool.not_eq_true'] at this
 refine ⟨this.1, fun e he hc => ?_⟩
 have h2 := List.any_eq_false.1 this.2 e he
 exact h2 (decide_eq_true hc)
theorem raws_ok {d : Nat} {t : GTree} {L : List GRaw} (hr : zn1 (d + 1) t = true) (h3 : t.fKind = 3) (hz : szT (d + 1) t) (hL : rawE (encT d) t.fEntries = some L) : ∀ r ∈ srt (t.fRest ++ L), zb2 r := by
 obtain ⟨_, he, hb, _, _⟩ := zE3 hr h3
 intro r hm
 rw [srt_mem] at hm
 rcases mA.1 hm with hm | hm
 · exact ⟨((restB_mem hb).1 r hm).1, hz.1.2.2 r hm⟩
 · exact (rawE_ok (fun e hm => by
    have := zm2 he e hm
    exact ⟨by omega, this.2.1, fun x hx => (szT_own (hz.2 x (zg2 hm hx))).1⟩) hL r hm).1
def zu4 (o : Option (List UInt8)) : List UInt8 × Int :=
 match o with
 | some b => (b, 0)
 | none => ([], 4)
theorem zT3 {l : List GRaw} (h : ∀ r ∈ l, zb2 r) : wire_PutAll l = some (zu4 (putB l)) := by
 rw [putAll_eq fun r hr => (h r hr).2, if_pos (List.all_eq_true.2 fun r hr => (h r hr).1), putB]
 split
 · rfl
 · rfl
theorem tags_eq {f : GTree → GValueValue} {E : List GEntry} {rest : List GRaw} (h : E.length ≤ 500) : value_Node_Tags ⟨E.map (entV f), rest⟩ = some (E.map GEntry.fTag) := by
 rw [value_Node_Tags]
 have := tags_l8 (E.map (entV f)) 0 [] (by rw [lZ, lM]; omega)
 rw [this, nA, List.map_map]; rfl
theorem raws_eq {selfB : GValueNode → Option (List UInt8 × Int)} {selfR : Int → GValueValue → Option (GRaw × Int)} {selfS : GValueNode → Option (List GRaw × Int)} {f : GTree → GValueValue} {enc : GTree → Option (List UInt8)} {E : List GEntry} {rest : List GRaw} (hs : E.Pairwise ze3) (ht : ∀ e ∈ E, e.fTrees.length ≤ 64 ∧ ∀ x ∈ e.fTrees, selfR e.fTag (f x) = some (match rawT enc e.fTag x with | some r => (r, 0) | none => (⟨0, 0, 0, []⟩, 4))) (hn : E.length ≤ 500) (hr : rest.length ≤ 900000) :
 encode_raws.body selfB selfR selfS ⟨E.map (entV f), rest⟩ = zK2 (rawE enc E) fun m => some (srt (rest ++ m), 0) := by
 rw [encode_raws.body, tags_eq hn, value_Node_Rest, slices_Clone_Raw, zp1 (by dsimp only; omega), bS, bS, bS, bS]
 exact raws_l10 hs ht hn E [] 0 rest rfl (by rw [lZ]; omega)
theorem bytes_eq : ∀ (d k : Nat) (t : GTree) (es : List GValueEntry) (rs : List GRaw), 3 * d ≤ k → zn1 d t = true → t.fKind = 3 → szT d t → valT d t = .node es rs → encode_bytes k ⟨es, rs⟩ = some (zu4 (encT d t))
 | 0, k, t, es, rs, _, hr, h3, _, _ => by
  rcases zu3 hr with h | h <;> omega
 | d + 1, k, t, es, rs, hk, hr, h3, hz, hv => by
  obtain ⟨k', rfl⟩ : ∃ k', k = k' + 3 := ⟨k - 3, by omega⟩
  obtain ⟨hl, he, hb, _, _⟩ := zE3 hr h3
  rw [valT, if_neg (by omega), if_neg (by omega)] at hv
  cases hv
  have hs : ∀ e ∈ t.fEntries, e.fTrees.length ≤ 64 ∧ ∀ x ∈ e.fTrees, encode_raw (k' + 1) e.fTag (valT d x) = some (match rawT (encT d) e.fTag x with | some r => (r, 0) | none => (⟨0, 0, 0, []⟩, 4)) := by
   intro e hm
   have h1 := zm2 he e hm
   refine ⟨h1.2.2.2.1, fun x hx => ?_⟩
   have hrx := (h1.2.2.2.2 x hx).2
   have hzx := hz.2 x (zg2 hm hx)
   rw [encode_raw, encode_raw.body, rawT]
   rcases zD3 hrx with h | h | h
   · have hv : valT d x = .num x.fN := by cases d <;> rw [valT, if_pos h]
     rw [hv, if_pos h]; rfl
   · have hv : valT d x = .str x.fS := by cases d <;> rw [valT, if_neg (by omega), if_pos h]
     rw [hv, if_neg (by omega), if_pos h, show encode_kept (.str x.fS) = some (.str x.fS) from rfl, bS]
     dsimp only
     rw [encode_raw.j3]
     by_cases hc : 4096 < x.fS.length
     · rw [if_pos hc, if_pos (by dsimp only; omega)]
     · rw [if_neg hc, if_neg (by dsimp only; omega)]
   · have h1' : ¬ x.fKind = 1 := by omega
     have h2' : ¬ x.fKind = 2 := by omega
     obtain ⟨es, rs, hv⟩ : ∃ es rs, valT d x = .node es rs := by cases d <;> exact ⟨_, _, by rw [valT, if_neg h1', if_neg h2']⟩
     rw [hv, if_neg h1', if_neg h2', show encode_kept (.node es rs) = some (.node es rs) from rfl, bS]
     dsimp only
     rw [bytes_eq d k' x es rs (by omega) hrx h hzx hv, bS]
     cases hx' : encT d x with
     | none => rfl
     | some b =>
      have hbl := encT_le hx'
      rw [zu4]; dsimp only
      rw [if_pos rfl, encode_raw.j3, if_neg (by dsimp only; omega), bS]
  have hR : encode_raws (k' + 2) ⟨t.fEntries.map fun e => ⟨e.fTag, e.fTrees.map (valT d)⟩, t.fRest⟩ = zK2 (rawE (encT d) t.fEntries) fun m => some (srt (t.fRest ++ m), 0) := by
   rw [encode_raws]
   exact raws_eq (f := valT d) (za3 he) hs hl hz.1.2.1
  rw [encode_bytes, encode_bytes.body, hR, encT]
  cases hL : rawE (encT d) t.fEntries with
  | none => rfl
  | some L =>
   rw [zK2, bS]; dsimp only
   rw [if_pos rfl, zT3 (raws_ok hr h3 hz hL), bS, bS]
theorem rawE_eq {d k : Nat} {t : GTree} (hk : 3 * d + 2 ≤ k) (hr : zn1 (d + 1) t = true) (h3 : t.fKind = 3) (hz : szT (d + 1) t) : encode_raws k ⟨t.fEntries.map (entV (valT d)), t.fRest⟩ = zK2 (rawE (encT d) t.fEntries) fun m => some (srt (t.fRest ++ m), 0) := by
 obtain ⟨k', rfl⟩ : ∃ k', k = k' + 2 := ⟨k - 2, by omega⟩
 obtain ⟨hl, he, hb, _, _⟩ := zE3 hr h3
 rw [encode_raws]
 refine raws_eq (f := valT d) (za3 he) ?_ hl hz.1.2.1
 intro e hm
 have h1 := zm2 he e hm
 refine ⟨h1.2.2.2.1, fun x hx => ?_⟩
 have hrx := (h1.2.2.2.2 x hx).2
 have hzx := hz.2 x (zg2 hm hx)
 rw [encode_raw, encode_raw.body, rawT]
 rcases zD3 hrx with h | h | h
 · have hv : valT d x = .num x.fN := by cases d <;> rw [valT, if_pos h]
   rw [hv, if_pos h]; rfl
 · have hv : valT d x = .str x.fS := by cases d <;> rw [valT, if_neg (by omega), if_pos h]
   rw [hv, if_neg (by omega), if_pos h, show encode_kept (.str x.fS) = some (.str x.fS) from rfl, bS]
   dsimp only
   rw [encode_raw.j3]
   by_cases hc : 4096 < x.fS.length
   · rw [if_pos hc, if_pos (by dsimp only; omega)]
   · rw [if_neg hc, if_neg (by dsimp only; omega)]
 · have h1' : ¬ x.fKind = 1 := by omega
   have h2' : ¬ x.fKind = 2 := by omega
   obtain ⟨es, rs, hv⟩ : ∃ es rs, valT d x = .node es rs := by cases d <;> exact ⟨_, _, by rw [valT, if_neg h1', if_neg h2']⟩
   rw [hv, if_neg h1', if_neg h2', show encode_kept (.node es rs) = some (.node es rs) from rfl, bS]
   dsimp only
   rw [bytes_eq d k' x es rs (by omega) hrx h hzx hv, bS]
   cases hx' : encT d x with
   | none => rfl
   | some b =>
    have hbl := encT_le hx'
    rw [zu4]; dsimp only
    rw [if_pos rfl, encode_raw.j3, if_neg (by dsimp only; omega), bS]
theorem zc3 {t : GTree} (h : zZ1 t = true) : zn1 10 t = true ∧ depT 101 t ≤ 10 := by
 unfold zZ1 at h
 rw [Bool.and_eq_true, decide_eq_true_eq] at h
 exact ⟨h.2, h.1⟩
theorem Raws_eq {t : GTree} (hz : szT 10 t) : encode_Raws t = some (if zZ1 t = true ∧ t.fKind = 3 then (match rawE (encT 9) t.fEntries with | some L => (srt (t.fRest ++ L), (0 : Int)) | none => ([], 4)) else ([], 1)) := by
 rw [encode_Raws, of_eq hz, bS]
 by_cases hc : zZ1 t = true
 · rw [if_pos hc]
   by_cases h3 : t.fKind = 3
   · rw [if_neg (by rw [decide_eq_true h3]; exact Bool.false_ne_true), if_pos ⟨hc, h3⟩]
     have hv : valT 10 t = .node (t.fEntries.map (entV (valT 9))) t.fRest := by rw [valT, if_neg (by omega), if_neg (by omega)]; rfl
     rw [hv, show value_Value_MustNode (.node (t.fEntries.map (entV (valT 9))) t.fRest) = some ⟨t.fEntries.map (entV (valT 9)), t.fRest⟩ from rfl, bS, rawE_eq (d := 9) (by have := zd1; omega) (zc3 hc).1 h3 hz]
     cases rawE (encT 9) t.fEntries <;> rfl
   · rw [if_pos (by rw [decide_eq_false h3]; rfl), if_neg (fun h => h3 h.2)]
 · rw [if_neg hc, if_pos (by rfl), if_neg (fun h => hc h.1)]
theorem Encode_eq {t : GTree} (hz : szT 10 t) : encode_Encode t = some (if zZ1 t = true ∧ t.fKind = 3 then zu4 (encT 10 t) else ([], 1)) := by
 rw [encode_Encode, Raws_eq hz, bS]
 by_cases hc : zZ1 t = true ∧ t.fKind = 3
 · rw [if_pos hc, if_pos hc, encT]
   cases hL : rawE (encT 9) t.fEntries with
   | none => rfl
   | some L =>
    dsimp only
    rw [if_pos rfl, zT3 (raws_ok (zc3 hc.1).1 hc.2 hz hL), bS, bS]
 · rw [if_neg hc, if_neg hc]; rfl
end Go.Proofs.YtaddlmlpeghonaaDoor
end
section
set_option maxRecDepth 4000
namespace Go.Proofs.YtaddlmlpeghonaaDoor
open AM
theorem ref_more (n : Nat) : UInt8.ofNat (Int.toNat (IntKind.u8.wrap ((IntKind.u8.wrap ((n : Int).tmod 128)) + 128))) = UInt8.ofNat (n % 128 + 128) := by
 have e : (n : Int).tmod 128 = ((n % 128 : Nat) : Int) := by rw [Int.tmod_eq_emod_of_nonneg (by omega)]; omega
 rw [e, u8w, show ((n % 128 % 256 : Nat) : Int) + 128 = ((n % 128 + 128 : Nat) : Int) by omega, u8w, Int.toNat_natCast]
 congr 1; omega
theorem ref_next {n : Nat} (h : n < 2 ^ 64) : IntKind.u64.wrap ((n : Int).tdiv 128) = ((n / 128 : Nat) : Int) := by
 rw [Int.tdiv_eq_ediv_of_nonneg (by omega), u64i (by omega) (by omega)]; omega
theorem ref02_l : ∀ (k n : Nat) (l : List UInt8), n < 2 ^ 64 → (vb n).length ≤ k → l.length + k ≤ 1000000 → ref02_Put.l8 k l (n : Int) = some (l ++ vb n)
 | 0, n, l, _, h, _ => by have := vb_pos n; omega
 | k + 1, n, l, hn, h, hl => by
  by_cases h1 : n < 128
  · rw [ref02_Put.l8, if_neg (by omega), zp1 (by omega), bS, lastByte n h1, vb_lt h1]
  · rw [vb_ge h1, lC] at h
    rw [ref02_Put.l8, if_pos (by omega), zp1 (by omega), bS, ref_more, ref_next hn, vb_ge h1, ref02_l k (n / 128) _ (by omega) (by omega) (by rw [lP, List.length_singleton]; omega), aA]; rfl
theorem ref02_m : ∀ (k j n : Nat) (l r : List UInt8), n < 2 ^ 64 → ref02_Put.l8 k l (n : Int) = some r → ref02_Put.l8 (k + j) l (n : Int) = some r
 | 0, _, _, _, _, _, h => by cases h
 | k + 1, j, n, l, r, hn, h => by
  rw [Nat.succ_add_eq_add_succ, Nat.add_succ]
  by_cases h1 : (128 : Int) ≤ (n : Int)
  · rw [ref02_Put.l8, if_pos h1] at h ⊢
    cases hr : room (lN l + 1) 1 with
    | none => rw [hr] at h; cases h
    | some u =>
     rw [hr, bS, ref_next hn] at h
     rw [bS, ref_next hn]; exact ref02_m k j _ _ _ (by omega) h
  · rw [ref02_Put.l8, if_neg h1] at h ⊢; exact h
theorem zr3 {n : Nat} (h : n < 2 ^ 64) : ref02_Put (n : Int) = some (vb n) := by
 have := ref02_m 10 999999999999999999990 n [] (vb n) h (ref02_l 10 n [] h (zf2 h) (by decide))
 exact this
theorem ref02_Zig_eq {n : Int} (h : In64 n) : ref02_Zig n = (zg n : Int) := by
 obtain ⟨h1, h2⟩ := h
 unfold ref02_Zig zg
 by_cases h0 : 0 ≤ n
 · rw [if_pos h0, if_pos h0, u64i h0 (by omega), u64i (by omega) (by omega)]; omega
 · rw [if_neg h0, if_neg h0, zW (x := n + 1) (by omega) (by omega), zW (by omega) (by omega), u64i (x := 0 - (n + 1)) (by omega) (by omega), u64i (x := 2 * (0 - (n + 1))) (by omega) (by omega), u64i (by omega) (by omega)]; omega
theorem zJ3 (r : GRaw) : ref04_Check r = wire_Check r := by
 unfold ref04_Check wire_Check
 by_cases h0 : r.fWire = 0
 · simp only [h0, if_true]
 · by_cases h1 : r.fWire = 1
   · simp only [h1, decide_true, Bool.true_and, if_true]
   · simp only [h0, h1, if_false, decide_false, Bool.false_and]
theorem ref04_Put_eq {r : GRaw} (h : zb2 r) : ref04_Put r = some (rawB r) := by
 obtain ⟨hc, hn⟩ := h
 obtain ⟨h1, h2, h3⟩ := zE1 hc
 have ek : IntKind.u64.wrap (IntKind.i64.wrap ((IntKind.i64.wrap (2 * r.fTag)) + r.fWire)) = ((keyN r : Nat) : Int) := by
  rw [zW (x := 2 * r.fTag) (by omega) (by omega), zW (by omega) (by omega), u64i (by omega) (by omega), keyN]; omega
 have k1 : keyN r < 2 ^ 64 := by unfold keyN; omega
 have kl := zf2 k1
 unfold ref04_Put
 rw [ek, zr3 k1, bS]
 rcases h3 with ⟨h3, h4⟩ | ⟨h3, h4, h5⟩
 · have hz := zf2 (zg_lt hn)
   rw [if_pos h3, bnd, ref02_Zig_eq hn, zr3 (zg_lt hn), bS, zp1 (by omega), bS, rawB, if_pos h3]
 · have hb := zf2 (n := r.fB.length) (by omega)
   rw [if_neg (by omega), u64w (by omega), zr3 (by omega), bS, zp1 (by omega), bS, zp1 (by rw [lP]; omega), bS, rawB, if_neg (by omega), aA]
theorem ref04_l13 : ∀ (q : List GRaw) (x : Int) (acc : List UInt8), (∀ r ∈ q, zb2 r) → acc.length ≤ 4096 → ref04_PutAll.l13 q x acc = some (if 4096 < (acc ++ zY q).length then ([], 4) else (acc ++ zY q, 0))
 | [], x, acc, _, ha => by
  rw [ref04_PutAll.l13, zY, fZ, aN, if_neg (by omega)]
 | r :: q, x, acc, h, ha => by
  have hr := h r (mS ..)
  have hrl := rawB_le hr
  rw [ref04_PutAll.l13, ref04_Put_eq hr, bS, zp1 (by omega), bS]
  have e : acc ++ zY (r :: q) = (acc ++ rawB r) ++ zY q := by rw [zY, fC, aA]; rfl
  rw [e]
  by_cases h1 : 4096 < (acc ++ rawB r).length
  · rw [if_pos (by omega), if_pos (by rw [lP]; omega)]
  · rw [if_neg (by omega), ref04_l13 q (x + 1) _ (fun s hs => h s (mO _ hs)) (by omega)]
theorem ref04_l4 (a : List GRaw) : ∀ (q : List GRaw) (x : Int), ref04_PutAll.l4 a q x = if q.all wire_Check then ref04_PutAll.l13 a 0 [] else some ([], 1)
 | [], x => by rw [ref04_PutAll.l4]; rfl
 | r :: q, x => by
  rw [ref04_PutAll.l4, bnd, List.all_cons, zJ3]
  by_cases h : wire_Check r = true
  · rw [h, if_neg (by decide), ref04_l4 a q]; rfl
  · rw [if_pos (by simpa using h), if_neg (by rw [Bool.and_eq_true]; exact fun hh => h hh.1)]
theorem zs5 {l : List GRaw} (h : ∀ r ∈ l, In64 r.fN) : ref04_PutAll l = wire_PutAll l := by
 rw [putAll_eq h, ref04_PutAll, ref04_l4]
 by_cases h1 : l.all wire_Check = true
 · rw [if_pos h1, if_pos h1, ref04_l13 l 0 [] (fun r hr => ⟨List.all_eq_true.1 h1 r hr, h r hr⟩) (by decide)]; rfl
 · rw [if_neg h1, if_neg h1]
theorem set_app0 {α : Type} {A B : List α} {x y : α} {i : Int} (h : i = A.length) : setI (A ++ x :: B) i y = A ++ y :: B := by
 subst h
 rw [setI, Int.toNat_natCast, List.set_append_right _ _ (nR _), Nat.sub_self, List.set_cons_zero]
theorem ref_l20 {r : GRaw} (x4 : Int) (rec8 : Int → List GRaw → Option (List GRaw)) : ∀ (k : Nat) (A B : List GRaw), A.Pairwise TagLe → (∀ b ∈ B, r.fTag < b.fTag) → A.length < k → A.length < 1000000 →
 ref04_Sorted.l20 x4 rec8 k (A ++ r :: B) (A.length : Int) = rec8 (x4 + 1) (insR r (A ++ B))
 | 0, A, B, _, _, h, _ => by omega
 | k + 1, A, B, hA, hB, hk, hn => by
  have stop : (∀ a ∈ A, a.fTag ≤ r.fTag) → ref04_Sorted.j23 x4 rec8 (A ++ r :: B) (A.length : Int) (ref04_Sorted.l20 x4 rec8 k) false = rec8 (x4 + 1) (insR r (A ++ B)) := by
   intro hle
   rw [ref04_Sorted.j23, if_neg (by decide), zS4 hle hB]
  rcases List.eq_nil_or_concat A with rfl | ⟨A', a, rfl⟩
  · rw [ref04_Sorted.l20, if_neg (by simp)]
    exact stop (fun a ha => by cases ha)
  · rw [List.concat_eq_append] at *
    have hlA : (A' ++ [a]).length = A'.length + 1 := by rw [lP, List.length_singleton]
    have e1 : IntKind.i64.wrap (((A' ++ [a]).length : Int) - 1) = (A'.length : Int) := by rw [zW (by omega) (by omega)]; omega
    have i1 : idxL ((A' ++ [a]) ++ r :: B) (A'.length : Int) = some a := by rw [aA]; exact zs2 rfl
    have i2 : idxL ((A' ++ [a]) ++ r :: B) ((A' ++ [a]).length : Int) = some r := zs2 rfl
    rw [ref04_Sorted.l20, if_pos (by omega), e1, i1, bS, i2, bS]
    by_cases hgt : r.fTag < a.fTag
    · have s1 : setI ((A' ++ [a]) ++ r :: B) (A'.length : Int) r = (A' ++ [r]) ++ r :: B := by
       rw [aA, aA]; exact set_app0 rfl
      have i3 : idxL ((A' ++ [r]) ++ r :: B) ((A' ++ [a]).length : Int) = some r := zs2 (by rw [hlA, lP, List.length_singleton])
      have s2 : setI ((A' ++ [r]) ++ r :: B) ((A' ++ [a]).length : Int) a = (A' ++ [r]) ++ a :: B := set_app0 (by rw [hlA, lP, List.length_singleton])
      rw [decide_eq_true hgt, ref04_Sorted.j23, if_pos rfl, i2, bS, e1, i1, bS, s1, i3, bS, s2, aA]
      have := ref_l20 (r := r) x4 rec8 k A' (a :: B) (List.pairwise_append.1 hA).1 (fun b hb => by
       rcases mI.1 hb with rfl | hb
       · exact hgt
       · exact hB b hb) (by omega) (by omega)
      rw [aA]
      exact this
    · rw [decide_eq_false hgt]
      refine stop ?_
      intro x hx
      rcases mA.1 hx with hx | hx
      · have := (List.pairwise_append.1 hA).2.2 x hx a (List.mem_singleton.2 rfl)
        unfold TagLe at this; omega
      · rw [List.mem_singleton] at hx; subst hx; omega
theorem ref_l8 : ∀ (q S : List GRaw) (x : Int), S.Pairwise TagLe → S.length + q.length < 1000000 → ref04_Sorted.l8 q x S = some (srtA q S)
 | [], S, x, _, _ => rfl
 | r :: q, S, x, hS, hn => by
  rw [lC] at hn
  rw [ref04_Sorted.l8, zp1 (by omega), bS]
  have := ref_l20 (r := r) x (ref04_Sorted.l8 q) rounds S [] hS (fun b hb => by cases hb) (by have := zd1; omega) (by omega)
  rw [aN] at this
  rw [this, ref_l8 q (insR r S) _ (zr2 hS) (by rw [zd4]; omega), srtA]
theorem zq5 {l : List GRaw} (h : l.length < 1000000) : ref04_Sorted l = some (srt l) :=
 ref_l8 l [] 0 List.Pairwise.nil (by rw [lZ]; omega)
theorem ref04_ris : ∀ (L : List GRaw) (k : Nat) (x : Int), ref04_Rising.l4 L k x = wire_Rising.l4 L k x
 | L, 0, x => rfl
 | L, k + 1, x => by
  rw [ref04_Rising.l4, wire_Rising.l4]
  simp only [ref04_ris L k]
theorem zr5 (l : List GRaw) : ref04_Rising l = wire_Rising l := ref04_ris l rounds 1
theorem rdeep_l18 {self : GTree → Int → Option Int} {m : Nat} {a : Int} (ha : a = 100 - m) (hm : m ≤ 100) (hs : ∀ x, self x (a + 1) = some ((depT m x : Nat) : Int)) {x7 : Int} {rec10 : Int → Int → Option Int} : ∀ (l : List GTree) (i : Int) (d : Nat),
 ref09_depth.l18 self a x7 rec10 l i (d : Int) = rec10 (x7 + 1) ((maxD (depT m) l d : Nat) : Int)
 | [], i, d => rfl
 | x :: l, i, d => by
  rw [ref09_depth.l18, zW (by omega) (by omega), hs, bS, maxD]
  have e : (if (d : Int) < ((depT m x : Nat) : Int) then ((depT m x : Nat) : Int) else (d : Int)) = ((max d (depT m x) : Nat) : Int) := by split <;> omega
  rw [e]; exact rdeep_l18 ha hm hs l _ _
theorem rdeep_l10 {self : GTree → Int → Option Int} {m : Nat} {a : Int} (ha : a = 100 - m) (hm : m ≤ 100) (hs : ∀ x, self x (a + 1) = some ((depT m x : Nat) : Int)) : ∀ (l : List GEntry) (i : Int) (d : Nat), d ≤ m →
 ref09_depth.l10 self a l i (d : Int) = some ((maxD (depT m) (l.flatMap GEntry.fTrees) d + 1 : Nat) : Int)
 | [], i, d, hd => by
  rw [ref09_depth.l10, zW (by omega) (by omega), fZ, maxD, if_neg (by omega)]; rfl
 | e :: l, i, d, hd => by
  rw [ref09_depth.l10, rdeep_l18 ha hm hs, rdeep_l10 ha hm hs l _ _ (zv5 hd fun x _ => depT_le m x), fC, maxD_app]
theorem rdeep_eq : ∀ (m k : Nat) (t : GTree) (a : Int), m ≤ 101 → m < k → a = 101 - m → ref09_depth k t a = some ((depT m t : Nat) : Int)
 | m, 0, t, a, _, h, _ => by omega
 | 0, k + 1, t, a, _, _, ha => by
  rw [ref09_depth, ref09_depth.body, if_pos (by simp only [Bool.or_eq_true, decide_eq_true_eq]; right; omega)]; rfl
 | m + 1, k + 1, t, a, hm, hk, ha => by
  rw [ref09_depth, ref09_depth.body, depT]
  by_cases h3 : t.fKind = 3
  · rw [if_neg (by simp only [h3, decide_true, Bool.not_true, Bool.false_or, decide_eq_true_eq]; omega), if_pos h3]
    exact rdeep_l10 (by omega) (by omega) (fun x => rdeep_eq m k x _ (by omega) (by omega) (by omega)) t.fEntries 0 0 (Nat.zero_le _)
  · rw [if_pos (by simp [h3]), if_neg h3]; rfl
theorem ref09_Depth_eq (t : GTree) : ref09_Depth t = some ((depT 101 t : Nat) : Int) := by
 rw [ref09_Depth, rdeep_eq 101 rounds t 0 (by omega) (by have := zd1; omega) (by omega)]; rfl
theorem rhas_eq {a : Int} : ∀ (l : List GEntry) (i : Int), ref09_Has.l4 a l i = l.any fun e => decide (e.fTag = a)
 | [], i => rfl
 | e :: l, i => by
  rw [ref09_Has.l4, List.any_cons]
  by_cases h : e.fTag = a
  · rw [if_pos h, decide_eq_true h, Bool.true_or]
  · rw [if_neg h, decide_eq_false h, Bool.false_or, rhas_eq]
theorem rrest_l4 {t : GTree} (hr : t.fRest.length < 4611686018427387904) : ∀ (l : List GRaw) (i : Int), ref09_rest.l4 t l i = some (l.all (fun r => wire_Check r && !(t.fEntries.any fun e => decide (e.fTag = r.fTag))) && risB t.fRest)
 | [], i => by rw [ref09_rest.l4, zr5, rising_eq hr]; rfl
 | r :: l, i => by
  rw [ref09_rest.l4, bnd, List.all_cons, zJ3]
  cases hc : wire_Check r with
  | false => rfl
  | true =>
   rw [if_neg (by decide), bnd, ref09_Has, rhas_eq]
   cases ha : t.fEntries.any fun e => decide (e.fTag = r.fTag) with
   | true => rfl
   | false => rw [ref09_rest.j10, if_neg (by decide), rrest_l4 hr l]; rfl
theorem zD4 {self : GTree → Option Bool} {f : GTree → Bool} {x3 : Int} {rec6 : Int → Int → Option Bool} {y : GEntry} (hy : 1 ≤ y.fTrees.length) : ∀ (l : List GTree) (i : Int), (∀ x ∈ l, self x = some (f x)) →
 ref09_entries.l18 self x3 rec6 y l i = if (l.all fun x => decide (x.fKind = (y.fTrees.headD zi2).fKind) && f x) = true then rec6 (x3 + 1) y.fTag else some false
 | [], i, _ => by rw [ref09_entries.l18]; rfl
 | x :: l, i, h => by
  have e1 : idxL y.fTrees 0 = some (y.fTrees.headD zi2) := by
   cases ht : y.fTrees with
   | nil => rw [ht] at hy; exact absurd hy (by decide)
   | cons a l => rfl
  rw [ref09_entries.l18, e1, bS, List.all_cons]
  by_cases hk : x.fKind = (y.fTrees.headD zi2).fKind
  · rw [if_pos hk, h x (mS ..), bS, decide_eq_true hk, Bool.true_and]
    cases f x with
    | false => rfl
    | true =>
     rw [ref09_entries.j23, if_neg (by decide), zD4 hy l _ fun z hz => h z (mO _ hz), Bool.true_and]
  · rw [if_neg hk, decide_eq_false hk]; rfl
theorem zo5 {self : GTree → Option Bool} {f : GTree → Bool} : ∀ (l : List GEntry) (i last : Int), (∀ e ∈ l, ∀ x ∈ e.fTrees, self x = some (f x)) → ref09_entries.l6 self l i last = some (entB f last l)
 | [], i, last, _ => rfl
 | e :: l, i, last, h => by
  rw [ref09_entries.l6, entB]
  by_cases hc : last < e.fTag ∧ e.fTag ≤ 500 ∧ 1 ≤ e.fTrees.length ∧ e.fTrees.length ≤ 64
  · rw [if_neg (by simp only [Bool.or_eq_true, decide_eq_true_eq]; omega), zD4 hc.2.2.1 e.fTrees 0 (h e (mS ..)), decide_eq_true hc, Bool.true_and]
    cases ha : e.fTrees.all fun x => decide (x.fKind = (e.fTrees.headD zi2).fKind) && f x with
    | false => rfl
    | true => rw [if_pos rfl, zo5 l _ _ fun y hy => h y (mO _ hy), Bool.true_and]
  · rw [if_pos (by simp only [Bool.or_eq_true, decide_eq_true_eq]; omega), decide_eq_false hc]; rfl
theorem rright_eq : ∀ (d m k : Nat) (t : GTree), d < m → depT m t ≤ d → 2 * d < k → szT d t → ref09_check k t = some (zn1 d t)
 | d, m, 0, t, _, _, h, _ => by omega
 | 0, m + 1, k + 1, t, _, hd, _, hz => by
  have h3 : ¬ t.fKind = 3 := by
   intro h; rw [depT, if_pos h] at hd; omega
  rw [ref09_check, ref09_check.body, zn1, leafB, if_neg h3]
  split <;> first | rfl | (split <;> rfl)
 | d + 1, m + 1, k + 1, t, hm, hd, hk, hz => by
  rw [ref09_check, ref09_check.body, zn1]
  by_cases h3 : t.fKind = 3
  · have hd' : maxD (depT m) (kids t) 0 ≤ d := by rw [depT, if_pos h3] at hd; omega
    obtain ⟨k', rfl⟩ : ∃ k', k = k' + 1 := ⟨k - 1, by omega⟩
    have he : ref09_entries (k' + 1) t.fEntries = some (entB (zn1 d) 0 t.fEntries) := by
     rw [ref09_entries, ref09_entries.body]
     exact zo5 t.fEntries 0 0 fun e he x hx => rright_eq d m k' x (by omega) (Nat.le_trans (maxD_mem (zg2 he hx)) hd') (by omega) (hz.2 x (zg2 he hx))
    have hr : ref09_rest t = some (restB t) := rrest_l4 (by have := hz.1.2.1; omega) _ _
    rw [if_neg (by omega), if_neg (by omega), if_pos h3, if_pos h3, he, hr]
    cases decide (t.fN = 0) && decide (t.fS = []) with
    | false => rfl
    | true => cases entB (zn1 d) 0 t.fEntries <;> rfl
  · rw [if_neg h3, if_neg h3, leafB]
    split <;> first | rfl | (split <;> rfl)
theorem ref09_Check_eq {t : GTree} (hz : szT 10 t) : ref09_Check t = some (zZ1 t) := by
 rw [ref09_Check, ref09_Depth_eq, bS, zZ1]
 by_cases h : depT 101 t ≤ 10
 · rw [if_pos (by omega), rright_eq 10 101 rounds t (by omega) h (by have := zd1; omega) hz, decide_eq_true h, Bool.true_and]; rfl
 · rw [if_neg (by omega), decide_eq_false h]; rfl
end Go.Proofs.YtaddlmlpeghonaaDoor
end
section
set_option maxRecDepth 4000
namespace Go.Proofs.YtaddlmlpeghonaaDoor
open AM
theorem rraws_l22 {selfE : GTree → Option (List UInt8 × Int)} {enc : GTree → Option (List UInt8)} {x4 : Int} {rec8 : Int → List GRaw → Option (List GRaw × Int)} {y : GEntry} : ∀ (l : List GTree) (i : Int) (acc : List GRaw), (∀ x ∈ l, (x.fKind = 1 ∨ x.fKind = 2 ∨ x.fKind = 3) ∧ (x.fKind = 3 → selfE x = some (zu4 (enc x)) ∧ ∀ b, enc x = some b → b.length ≤ 4096)) → acc.length + l.length < 3000000 →
 ref11_raws.l22 selfE x4 rec8 y l i acc = zK2 (rawL enc y.fTag l) fun m => rec8 (x4 + 1) (acc ++ m)
 | [], i, acc, _, _ => by rw [ref11_raws.l22, rawL, zK2, aN]
 | x :: l, i, acc, h, hl => by
  rw [lC] at hl
  have hx := h x (mS ..)
  have go : ∀ r : GRaw, rawT enc y.fTag x = some r → r.fB.length ≤ 4096 → ref11_raws.j37 i acc (ref11_raws.l22 selfE x4 rec8 y l) r = zK2 (rawL enc y.fTag (x :: l)) fun m => rec8 (x4 + 1) (acc ++ m) := by
   intro r hr hb
   rw [ref11_raws.j37, if_neg (by omega), zp1 (by omega), bS, rraws_l22 l _ _ (fun z hz => h z (mO _ hz)) (by rw [lP, List.length_singleton]; omega), rawL, hr, bS]
   cases rawL enc y.fTag l with
   | none => rfl
   | some m => simp only [zK2, bS, aA, cA, nA]
  rw [ref11_raws.l22]
  by_cases h1 : x.fKind = 1
  · rw [if_pos h1]
    exact go _ (by rw [rawT, if_pos h1]) (Nat.zero_le _)
  · rw [if_neg h1]
    by_cases h2 : x.fKind = 2
    · rw [if_pos h2]
      by_cases hb : 4096 < x.fS.length
      · rw [ref11_raws.j37, if_pos (by dsimp only; omega), rawL, rawT, if_neg h1, if_pos h2, if_pos hb]; rfl
      · exact go _ (by rw [rawT, if_neg h1, if_pos h2, if_neg hb]) (by dsimp only; omega)
    · rw [if_neg h2]
      obtain ⟨he, hl4⟩ := hx.2 (by rcases hx.1 with h | h | h <;> omega)
      rw [he, bS]
      cases hx' : enc x with
      | none => rw [rawL, rawT, if_neg h1, if_neg h2, hx']; rfl
      | some b =>
       rw [zu4]; dsimp only
       rw [if_pos rfl]
       exact go _ (by rw [rawT, if_neg h1, if_neg h2, hx', bS]) (hl4 b hx')
theorem rraws_l8 {selfE : GTree → Option (List UInt8 × Int)} {enc : GTree → Option (List UInt8)} {t : GTree} (hr : t.fRest.length ≤ 900000) : ∀ (l : List GEntry) (i : Int) (acc : List GRaw), (∀ e ∈ l, e.fTrees.length ≤ 64 ∧ ∀ x ∈ e.fTrees, (x.fKind = 1 ∨ x.fKind = 2 ∨ x.fKind = 3) ∧ (x.fKind = 3 → selfE x = some (zu4 (enc x)) ∧ ∀ b, enc x = some b → b.length ≤ 4096)) → acc.length + 64 * l.length ≤ 64000 →
 ref11_raws.l8 selfE t l i acc = zK2 (rawE enc l) fun m => some (srt ((acc ++ m) ++ t.fRest), 0)
 | [], i, acc, _, hl => by
  rw [ref11_raws.l8, zp1 (by simp only [lZ] at hl; omega), bS, zq5 (by rw [lP]; simp only [lZ] at hl; omega), rawE, zK2, aN]; rfl
 | e :: l, i, acc, h, hl => by
  rw [lC] at hl
  have he := h e (mS ..)
  rw [ref11_raws.l8, rraws_l22 e.fTrees 0 acc he.2 (by omega), rawE]
  cases hL : rawL enc e.fTag e.fTrees with
  | none => rfl
  | some m =>
   have hm := rawL_len hL
   rw [zK2, rraws_l8 hr l _ _ (fun z hz => h z (mO _ hz)) (by rw [lP]; omega), bS]
   cases rawE enc l with
   | none => rfl
   | some m' => simp only [zK2, bS, aA]
theorem zz5 {l : List GRaw} {t : Int} (h : ∀ r ∈ l, r.fTag ≠ t) : l.filter (fun x => x.fTag = t) = [] := by
 rw [List.filter_eq_nil_iff]
 intro r hr
 simpa using h r hr
theorem srt_swap {l m : List GRaw} (h : ∀ a ∈ l, ∀ b ∈ m, a.fTag ≠ b.fTag) : srt (l ++ m) = srt (m ++ l) := by
 refine srt_of (zC3 _) fun t => ?_
 rw [srt_filter, List.filter_append, List.filter_append]
 by_cases hl : ∃ a ∈ l, a.fTag = t
 · obtain ⟨a, ha, rfl⟩ := hl
   rw [zz5 (l := m) (t := a.fTag) fun b hb hc => h a ha b hb hc.symm, aN, nA]
 · rw [zz5 (l := l) (t := t) fun a ha hc => hl ⟨a, ha, hc⟩, aN, nA]
theorem rest_apart {d : Nat} {t : GTree} {L : List GRaw} (hr : zn1 (d + 1) t = true) (h3 : t.fKind = 3) (hz : szT (d + 1) t) (hL : rawE (encT d) t.fEntries = some L) : ∀ a ∈ L, ∀ b ∈ t.fRest, a.fTag ≠ b.fTag := by
 obtain ⟨_, he, hb, _, _⟩ := zE3 hr h3
 intro a ha b hb' hc
 obtain ⟨_, e, hm, he'⟩ := rawE_ok (fun e hm => by
  have := zm2 he e hm
  exact ⟨by omega, this.2.1, fun x hx => (szT_own (hz.2 x (zg2 hm hx))).1⟩) hL a ha
 exact ((restB_mem hb).1 b hb').2 e hm (he'.symm.trans hc)
theorem rencode_eq : ∀ (d k : Nat) (t : GTree), 2 * d ≤ k → zn1 d t = true → t.fKind = 3 → szT d t → ref11_encode k t = some (zu4 (encT d t))
 | 0, k, t, _, hr, h3, _ => by
  rcases zu3 hr with h | h <;> omega
 | d + 1, k, t, hk, hr, h3, hz => by
  obtain ⟨k', rfl⟩ : ∃ k', k = k' + 2 := ⟨k - 2, by omega⟩
  obtain ⟨hl, he, hb, _, _⟩ := zE3 hr h3
  have hs : ∀ e ∈ t.fEntries, e.fTrees.length ≤ 64 ∧ ∀ x ∈ e.fTrees, (x.fKind = 1 ∨ x.fKind = 2 ∨ x.fKind = 3) ∧ (x.fKind = 3 → ref11_encode k' x = some (zu4 (encT d x)) ∧ ∀ b, encT d x = some b → b.length ≤ 4096) := by
   intro e hm
   have h1 := zm2 he e hm
   refine ⟨h1.2.2.2.1, fun x hx => ?_⟩
   have hrx := (h1.2.2.2.2 x hx).2
   exact ⟨zD3 hrx, fun hx3 => ⟨rencode_eq d k' x (by omega) hrx hx3 (hz.2 x (zg2 hm hx)), fun b => encT_le⟩⟩
  rw [ref11_encode, ref11_encode.body, ref11_raws, ref11_raws.body, rraws_l8 (enc := encT d) hz.1.2.1 t.fEntries 0 [] hs (by rw [lZ]; omega), encT]
  cases hL : rawE (encT d) t.fEntries with
  | none => rfl
  | some L =>
   have hok := raws_ok hr h3 hz hL
   rw [zK2, bS, nA, srt_swap (rest_apart hr h3 hz hL)]; dsimp only
   rw [if_pos rfl, zs5 fun r hr => (hok r hr).2, zT3 hok, bS, bS]
theorem zp5 {t : GTree} (hz : szT 10 t) : ref11_Encode t = some (if zZ1 t = true ∧ t.fKind = 3 then zu4 (encT 10 t) else ([], 1)) := by
 rw [ref11_Encode, ref09_Check_eq hz]
 by_cases h3 : t.fKind = 3
 · rw [if_pos h3, bS, bS]
   by_cases hc : zZ1 t = true
   · rw [if_neg (by rw [hc]; decide), if_pos ⟨hc, h3⟩, rencode_eq 10 rounds t (by have := zd1; omega) (zc3 hc).1 h3 hz, bS]
   · rw [if_pos (by simpa using hc), if_neg (fun h => hc h.1)]
 · rw [if_neg h3, bS, if_pos rfl, if_neg (fun h => h3 h.2)]
end Go.Proofs.YtaddlmlpeghonaaDoor
end
section
set_option maxRecDepth 4000
namespace Go.Proofs.YtaddlmlpeghonaaDoor
open AM

end Go.Proofs.YtaddlmlpeghonaaDoor
end
section
set_option maxRecDepth 4000
namespace Go.Proofs.YtaddlmlpeghonaaDoor
open AM
inductive Shuf : List GRaw → List GRaw → Prop
 | refl (l : List GRaw) : Shuf l l
 | cons (a : GRaw) {l m : List GRaw} : Shuf l m → Shuf (a :: l) (a :: m)
 | swap {a b : GRaw} (h : a.fTag ≠ b.fTag) (l : List GRaw) : Shuf (a :: b :: l) (b :: a :: l)
 | trans {l m n : List GRaw} : Shuf l m → Shuf m n → Shuf l n
theorem Shuf.app {l m : List GRaw} (h : Shuf l m) (k : List GRaw) : Shuf (l ++ k) (m ++ k) := by
 induction h with
 | refl l => exact .refl _
 | cons a _ ih => exact .cons a ih
 | swap h l => exact .swap h _
 | trans _ _ h1 h2 => exact .trans h1 h2
end Go.Proofs.YtaddlmlpeghonaaDoor
end
