/- Parts of the proof, cut down to what it needs. -/
import Derived.Test.YtaddlmlpeghonaaDoorPFB
set_option linter.constructorNameAsVariable false
set_option linter.unusedSimpArgs false
set_option linter.unusedVariables false
open List renaming length → lN, flatMap → fM, length_append → lP, length_cons → lC, length_nil → lZ, mem_cons_of_mem → mO, mem_cons_self → mS, append_assoc → aA, getD_eq_getElem?_getD → gG, append_nil → aN, map_nil → mN, map_cons → mC, nil_append → nA, flatMap_append → fA, flatMap_nil → fZ, flatMap_cons → fC, mem_append → mA, cons_append → cA, pairwise_cons → pC, length_map → lM, drop_zero → dZ, getElem?_append_right → gR, getElem?_append_left → gL, map_append → mP, length_eq_zero_iff → lI, mem_cons → mI
open Option renaming bind_some → bS, some.injEq → sI
open Nat renaming reduceLT → rL, reduceLeDiff → rD, reduceEqDiff → rE, reduceAdd → rA, reduceMul → rM, reduceSub → rS, zero_add → nZ, le_refl → nR, lt_succ_self → nS
section
set_option maxRecDepth 4000
set_option maxHeartbeats 1000000
namespace Go.Proofs.YtaddlmlpeghonaaDoor
open AM
def value_right.body (self_value_entries : GTree → Option Bool) (self_value_right : GTree → Option Bool) (a0 : GTree) : Option Bool :=
 (if a0.fKind = 1 then some (((decide (a0.fS = [])) && (decide ((lN a0.fEntries : Int) = 0))) && (decide ((lN a0.fRest : Int) = 0))) else (if a0.fKind = 2 then some (((decide (a0.fN = 0)) && (decide ((lN a0.fEntries : Int) = 0))) && (decide ((lN a0.fRest : Int) = 0))) else (if a0.fKind = 3 then (if ((decide (a0.fN = 0)) && (decide (a0.fS = []))) = true then (self_value_entries a0).bind fun r16 => some r16 else some false).bind fun c16 => (if c16 = true then (value_rest a0).bind fun r18 => some r18 else some false).bind fun c18 => some c18 else some false)))
theorem value_right.step (self_value_entries : GTree → Option Bool) (self_value_right : GTree → Option Bool) (ih_value_entries : ∀ (a0 : GTree) (r : Bool), self_value_entries a0 = some r → ACalls Tryd.prog 100 [.agg (cellsGTree a0)] [] (fun r' _ => r' = .bool r)) (ih_value_right : ∀ (a0 : GTree) (r : Bool), self_value_right a0 = some r → ACalls Tryd.prog 72 [.agg (cellsGTree a0)] [] (fun r' _ => r' = .bool r)) (a0 : GTree) (r : Bool) (h : value_right.body self_value_entries self_value_right a0 = some r) : ACalls Tryd.prog 72 [.agg (cellsGTree a0)] [] (fun r' _ => r' = .bool r) := by
 have ev_value_entries := fun a0 r h σ => (ih_value_entries a0 r h).c σ
 have ev_value_right := fun a0 r h σ => (ih_value_right a0 r h).c σ
 refine zm (rs := [.tmp 2]) tok Tryd.func72 rfl Tryd.ntmps72 rfl Tryd.call72 (by simp) ?_
 refine zo [(0, .agg (cellsGTree a0))] ⟨rfl, trivial⟩ ?_
 unfold value_right.body at h
 refine rg tok [1] fun K hK => ?_
 simp only [go_sem, rL, rE, rA, reduceCtorEq, cellsGTree]
 refine hK _ _ ?_
 refine ze fun Z1 hZ1 => ?_
 refine rg tok [1, 4] fun K hK => ?_
 simp only [go_sem, rL, rE, rA]
 refine hK _ _ ?_
 refine zk ?_
 refine rg tok [1, 4, 5] fun K hK => ?_
 simp only [go_sem, rL, rE]
 refine hK _ _ ?_
 refine zA rfl (fun hc2 => ?_) (fun hc2 => ?_)
 · rw [if_pos hc2] at h
   have t3 := eq_true hc2
   refine rc [2] fun K hK => ?_
   refine za tok 4 ?_
   simp only [go_sem, rL, rE, rA, t3]
   refine zp 5 (fun L τ => L = ([(1, .op 0 0 0), (15, .bool ((decide (a0.fS = [])) && (decide ((lN a0.fEntries : Int) = 0))))] : List (Nat × AV)) ∧ τ = ([.cells 0 [.int .i64 a0.fKind, .int .i64 a0.fN, .str a0.fS, .ds true (fM encGEntry a0.fEntries) (lN a0.fEntries) false, .ds true (fM encGRaw a0.fRest) (lN a0.fRest) false]] : Store)) ?_ ?_
   · refine za1 10 rfl (fun hg10 => ?_) (fun hg10 => ?_)
     · have t4 := eq_true hg10
       refine za tok 5 ?_
       simp only [go_sem, rL, rE, rA]
       refine zb ⟨rfl, _, _, ⟨rfl, rfl⟩, .p t4⟩
     · have t5 := eq_false hg10
       refine za tok 5 ?_
       simp only [go_sem, rL, rE]
       refine zb ⟨rfl, _, _, ⟨rfl, rfl⟩, .p t5⟩
   rintro _ _ ⟨rfl, rfl⟩
   refine za tok 1 ?_
   simp only [go_sem, rL, rE]
   refine zp 5 (fun L τ => L = ([(21, .bool (((decide (a0.fS = [])) && (decide ((lN a0.fEntries : Int) = 0))) && (decide ((lN a0.fRest : Int) = 0))))] : List (Nat × AV)) ∧ τ = ([.cells 0 [.int .i64 a0.fKind, .int .i64 a0.fN, .str a0.fS, .ds true (fM encGEntry a0.fEntries) (lN a0.fEntries) false, .ds true (fM encGRaw a0.fRest) (lN a0.fRest) false]] : Store)) ?_ ?_
   · refine zI (b := ((decide (a0.fS = [])) && (decide ((lN a0.fEntries : Int) = 0)))) 16 rfl (fun hg16 => ?_) (fun hg16 => ?_)
     · refine za tok 5 ?_
       simp only [go_sem, rL, rE, rA]
       refine zb ⟨rfl, _, _, ⟨rfl, rfl⟩, .b hg16⟩
     · refine za tok 5 ?_
       simp only [go_sem, rL, rE]
       refine zb ⟨rfl, _, _, ⟨rfl, rfl⟩, .b hg16⟩
   rintro _ _ ⟨rfl, rfl⟩
   refine za tok 1 ?_
   simp only [go_sem, rL]
   refine zb ?_
   simp only [zd, upd, rE, reduceIte, zl, zn]
   refine hK _ _ ?_
   refine zj ?_
   obtain rfl := Option.some.inj h
   exact retA
 · rw [if_neg hc2] at h
   have t6 := eq_false hc2
   refine rg tok [1, 4, 22] fun K hK => ?_
   simp only [go_sem, rL, rE, t6]
   refine hK _ _ ?_
   refine zA rfl (fun hc7 => ?_) (fun hc7 => ?_)
   · rw [if_pos hc7] at h
     have t8 := eq_true hc7
     refine rc [2] fun K hK => ?_
     refine za tok 4 ?_
     simp only [go_sem, rL, rE, rA, t8]
     refine zp 5 (fun L τ => L = ([(1, .op 0 0 0), (32, .bool ((decide (a0.fN = 0)) && (decide ((lN a0.fEntries : Int) = 0))))] : List (Nat × AV)) ∧ τ = ([.cells 0 [.int .i64 a0.fKind, .int .i64 a0.fN, .str a0.fS, .ds true (fM encGEntry a0.fEntries) (lN a0.fEntries) false, .ds true (fM encGRaw a0.fRest) (lN a0.fRest) false]] : Store)) ?_ ?_
     · refine za1 27 rfl (fun hg27 => ?_) (fun hg27 => ?_)
       · have t9 := eq_true hg27
         refine za tok 5 ?_
         simp only [go_sem, rL, rE, rA]
         refine zb ⟨rfl, _, _, ⟨rfl, rfl⟩, .p t9⟩
       · have t10 := eq_false hg27
         refine za tok 5 ?_
         simp only [go_sem, rL, rE]
         refine zb ⟨rfl, _, _, ⟨rfl, rfl⟩, .p t10⟩
     rintro _ _ ⟨rfl, rfl⟩
     refine za tok 1 ?_
     simp only [go_sem, rL, rE]
     refine zp 5 (fun L τ => L = ([(38, .bool (((decide (a0.fN = 0)) && (decide ((lN a0.fEntries : Int) = 0))) && (decide ((lN a0.fRest : Int) = 0))))] : List (Nat × AV)) ∧ τ = ([.cells 0 [.int .i64 a0.fKind, .int .i64 a0.fN, .str a0.fS, .ds true (fM encGEntry a0.fEntries) (lN a0.fEntries) false, .ds true (fM encGRaw a0.fRest) (lN a0.fRest) false]] : Store)) ?_ ?_
     · refine zI (b := ((decide (a0.fN = 0)) && (decide ((lN a0.fEntries : Int) = 0)))) 33 rfl (fun hg33 => ?_) (fun hg33 => ?_)
       · refine za tok 5 ?_
         simp only [go_sem, rL, rE, rA]
         refine zb ⟨rfl, _, _, ⟨rfl, rfl⟩, .b hg33⟩
       · refine za tok 5 ?_
         simp only [go_sem, rL, rE]
         refine zb ⟨rfl, _, _, ⟨rfl, rfl⟩, .b hg33⟩
     rintro _ _ ⟨rfl, rfl⟩
     refine za tok 1 ?_
     simp only [go_sem, rL]
     refine zb ?_
     simp only [zd, upd, rE, reduceIte, zl, zn]
     refine hK _ _ ?_
     refine zj ?_
     obtain rfl := Option.some.inj h
     exact retA
   · rw [if_neg hc7] at h
     have t11 := eq_false hc7
     refine rg tok [1, 39] fun K hK => ?_
     simp only [go_sem, rL, rE, t11]
     refine hK _ _ ?_
     refine zA rfl (fun hc12 => ?_) (fun hc12 => ?_)
     · rw [if_pos hc12] at h
       have t13 := eq_true hc12
       refine rc [2] fun K hK => ?_
       refine za tok 4 ?_
       simp only [go_sem, rL, rE, rA, t13]
       refine zp 4 (fun L τ => L = ([(1, .op 0 0 0), (48, .bool ((decide (a0.fN = 0)) && (decide (a0.fS = []))))] : List (Nat × AV)) ∧ τ = ([.cells 0 [.int .i64 a0.fKind, .int .i64 a0.fN, .str a0.fS, .ds true (fM encGEntry a0.fEntries) (lN a0.fEntries) false, .ds true (fM encGRaw a0.fRest) (lN a0.fRest) false]] : Store)) ?_ ?_
       · refine za1 44 rfl (fun hg44 => ?_) (fun hg44 => ?_)
         · have t14 := eq_true hg44
           refine za tok 4 ?_
           simp only [go_sem, rL, rE, rA]
           refine zb ⟨rfl, _, _, ⟨rfl, rfl⟩, .p t14⟩
         · have t15 := eq_false hg44
           refine za tok 4 ?_
           simp only [go_sem, rL, rE]
           refine zb ⟨rfl, _, _, ⟨rfl, rfl⟩, .p t15⟩
       rintro _ _ ⟨rfl, rfl⟩
       refine za tok 1 ?_
       simp only [go_sem, rL, rE]
       obtain ⟨c16, hc16, h⟩ := bind_some h
       refine zp 3 (fun L τ => L = ([(1, .op 0 0 0), (52, .bool c16)] : List (Nat × AV)) ∧ τ = ([.cells 0 [.int .i64 a0.fKind, .int .i64 a0.fN, .str a0.fS, .ds true (fM encGEntry a0.fEntries) (lN a0.fEntries) false, .ds true (fM encGRaw a0.fRest) (lN a0.fRest) false]] : Store)) ?_ ?_
       · refine zI (b := ((decide (a0.fN = 0)) && (decide (a0.fS = [])))) 49 rfl (fun hg49 => ?_) (fun hg49 => ?_)
         · rw [if_pos hg49] at hc16
           obtain ⟨r17, hr17, hc16⟩ := bind_some hc16
           refine za tok 1 ?_
           simp only [go_sem, rL, rD, rE, rA]
           refine zh rfl rfl rfl (ev_value_entries a0 r17 hr17 _) ?_
           rintro _ _ ⟨rfl, rfl⟩
           refine za tok 1 ?_
           simp only [go_sem, rL, rE]
           obtain rfl := Option.some.inj hc16
           refine zb ⟨rfl, _, _, ⟨rfl, rfl⟩, .b hg49⟩
         · rw [if_F hg49] at hc16
           refine za tok 3 ?_
           simp only [go_sem, rL, rE]
           obtain rfl := Option.some.inj hc16
           refine zb ⟨rfl, _, _, ⟨rfl, rfl⟩, .b hg49⟩
       rintro _ _ ⟨rfl, rfl⟩
       refine za tok 1 ?_
       simp only [go_sem, rL, rE]
       obtain ⟨c18, hc18, h⟩ := bind_some h
       refine zp 3 (fun L τ => L = ([(56, .bool c18)] : List (Nat × AV)) ∧ τ = ([.cells 0 [.int .i64 a0.fKind, .int .i64 a0.fN, .str a0.fS, .ds true (fM encGEntry a0.fEntries) (lN a0.fEntries) false, .ds true (fM encGRaw a0.fRest) (lN a0.fRest) false]] : Store)) ?_ ?_
       · refine zI (b := c16) 53 rfl (fun hg53 => ?_) (fun hg53 => ?_)
         · rw [if_pos hg53] at hc18
           obtain ⟨r19, hr19, hc18⟩ := bind_some hc18
           refine za tok 1 ?_
           simp only [go_sem, rL, rD, rE, rA]
           refine zh rfl rfl rfl (value_rest.ev a0 r19 hr19 _) ?_
           rintro _ _ ⟨rfl, rfl⟩
           refine za tok 1 ?_
           simp only [go_sem, rL, rE]
           obtain rfl := Option.some.inj hc18
           refine zb ⟨rfl, _, _, ⟨rfl, rfl⟩, .b hg53⟩
         · rw [if_F hg53] at hc18
           refine za tok 3 ?_
           simp only [go_sem, rL, rE]
           obtain rfl := Option.some.inj hc18
           refine zb ⟨rfl, _, _, ⟨rfl, rfl⟩, .b hg53⟩
       rintro _ _ ⟨rfl, rfl⟩
       refine za tok 1 ?_
       simp only [go_sem, rL]
       refine zb ?_
       simp only [zd, upd, rE, reduceIte, zl, zn]
       refine hK _ _ ?_
       refine zj ?_
       obtain rfl := Option.some.inj h
       exact retA
     · rw [if_neg hc12] at h
       have t20 := eq_false hc12
       refine zi ?_
       refine hZ1 _ _ ?_
       refine rg tok [2] fun K hK => ?_
       simp only [go_sem, rL, rE, t20]
       refine hK _ _ ?_
       refine zj ?_
       obtain rfl := Option.some.inj h
       exact retA
mutual
def value_entries : Nat → GTree → Option Bool
 | 0, _ => none
 | k + 1, a0 => value_entries.body (value_entries k) (value_right k) a0
def value_right : Nat → GTree → Option Bool
 | 0, _ => none
 | k + 1, a0 => value_right.body (value_entries k) (value_right k) a0
end
theorem value_entries.all (k : Nat) : (∀ (a0 : GTree) (r : Bool), value_entries k a0 = some r → ACalls Tryd.prog 100 [.agg (cellsGTree a0)] [] (fun r' _ => r' = .bool r)) ∧ (∀ (a0 : GTree) (r : Bool), value_right k a0 = some r → ACalls Tryd.prog 72 [.agg (cellsGTree a0)] [] (fun r' _ => r' = .bool r)) := by
 induction k with
 | zero => exact ⟨(fun a0 r h => by simp only [value_entries] at h; cases h), (fun a0 r h => by simp only [value_right] at h; cases h)⟩
 | succ k ih => exact ⟨(fun a0 r h => value_entries.step _ _ ih.1 ih.2 a0 r (by simpa only [value_entries] using h)), (fun a0 r h => value_right.step _ _ ih.1 ih.2 a0 r (by simpa only [value_right] using h))⟩
theorem value_right.ev (k : Nat) (a0 : GTree) (r : Bool) (h : value_right k a0 = some r) (σ : Store) : ACalls Tryd.prog 72 [.agg (cellsGTree a0)] σ (fun r' σ' => r' = .bool r ∧ σ' = σ) :=
 ((value_entries.all k).2 a0 r h).c σ
def value_Check (a0 : GTree) : Option Bool :=
 (value_Depth a0).bind fun r1 => (if r1 ≤ 10 then (value_right rounds a0).bind fun r2 => some r2 else some false).bind fun c2 => some c2
theorem value_Check.ok (a0 : GTree) (r : Bool) (h : value_Check a0 = some r) : ACalls Tryd.prog 48 [.agg (cellsGTree a0)] [] (fun r' _ => r' = .bool r) := by
 refine zm (rs := [.tmp 2]) tok Tryd.func48 rfl Tryd.ntmps48 rfl Tryd.call48 (by simp) ?_
 refine zo [(0, .agg (cellsGTree a0))] ⟨rfl, trivial⟩ ?_
 unfold value_Check at h
 refine rg tok [1] fun K hK => ?_
 simp only [go_sem, rL, rE, rA, reduceCtorEq, cellsGTree]
 refine hK _ _ ?_
 refine rc [2] fun K hK => ?_
 obtain ⟨r1, hr1, h⟩ := bind_some h
 refine za tok 1 ?_
 simp only [go_sem, rL, rD, rA]
 refine zh rfl rfl rfl (value_Depth.ev a0 r1 hr1 _) ?_
 rintro _ _ ⟨rfl, rfl⟩
 refine za tok 2 ?_
 simp only [go_sem, rL, rE]
 obtain ⟨c2, hc2, h⟩ := bind_some h
 refine zp 3 (fun L τ => L = ([(9, .bool c2)] : List (Nat × AV)) ∧ τ = ([.cells 0 [.int .i64 a0.fKind, .int .i64 a0.fN, .str a0.fS, .ds true (fM encGEntry a0.fEntries) (lN a0.fEntries) false, .ds true (fM encGRaw a0.fRest) (lN a0.fRest) false]] : Store)) ?_ ?_
 · refine za1 6 rfl (fun hg6 => ?_) (fun hg6 => ?_)
   · have t3 := eq_true hg6
     rw [if_pos hg6] at hc2
     obtain ⟨r4, hr4, hc2⟩ := bind_some hc2
     refine za tok 1 ?_
     simp only [go_sem, rL, rD, rE, rA]
     refine zh rfl rfl rfl (value_right.ev rounds a0 r4 hr4 _) ?_
     rintro _ _ ⟨rfl, rfl⟩
     refine za tok 1 ?_
     simp only [go_sem, rL, rE]
     obtain rfl := Option.some.inj hc2
     refine zb ⟨rfl, _, _, ⟨rfl, rfl⟩, .p t3⟩
   · have t5 := eq_false hg6
     rw [if_neg hg6] at hc2
     refine za tok 3 ?_
     simp only [go_sem, rL, rE]
     obtain rfl := Option.some.inj hc2
     refine zb ⟨rfl, _, _, ⟨rfl, rfl⟩, .p t5⟩
 rintro _ _ ⟨rfl, rfl⟩
 refine za tok 1 ?_
 simp only [go_sem, rL]
 refine zb ?_
 simp only [zd, upd, rE, reduceIte, zl, zn]
 refine hK _ _ ?_
 refine zj ?_
 obtain rfl := Option.some.inj h
 exact retA
theorem value_Check.ev (a0 : GTree) (r : Bool) (h : value_Check a0 = some r) (σ : Store) : ACalls Tryd.prog 48 [.agg (cellsGTree a0)] σ (fun r' σ' => r' = .bool r ∧ σ' = σ) :=
 (value_Check.ok a0 r h).c σ
def value_Num (a0 : Int) : GValueValue :=
 (GValueValue.num a0)
theorem value_Num.ok (a0 : Int) (r : GValueValue) (h : value_Num a0 = r) : ACalls Tryd.prog 122 [.int .i64 a0] [] (fun r' _ => r' = .agg (encGValueValue r)) := by
 refine zm (rs := [.cell 2 127]) tok Tryd.func122 rfl Tryd.ntmps122 rfl Tryd.call122 (by simp) ?_
 refine zo [(0, .int .i64 a0)] ⟨rfl, trivial⟩ ?_
 unfold value_Num at h
 refine rg tok [0, 2] fun K hK => ?_
 simp only [go_sem, rL, reduceCtorEq]
 refine hK _ _ ?_
 refine rg tok [2] fun K hK => ?_
 simp only [go_sem, rL, rD, rE, reduceCtorEq]
 refine hK _ _ ?_
 refine zj ?_
 obtain rfl := h
 exact retA
theorem value_Num.ev (a0 : Int) (r : GValueValue) (h : value_Num a0 = r) (σ : Store) : ACalls Tryd.prog 122 [.int .i64 a0] σ (fun r' σ' => r' = .agg (encGValueValue r) ∧ σ' = σ) :=
 (value_Num.ok a0 r h).c σ
def value_Str (a0 : List UInt8) : GValueValue :=
 (GValueValue.str a0)
theorem value_Str.ok (a0 : List UInt8) (r : GValueValue) (h : value_Str a0 = r) : ACalls Tryd.prog 123 [.str a0] [] (fun r' _ => r' = .agg (encGValueValue r)) := by
 refine zm (rs := [.cell 2 127]) tok Tryd.func123 rfl Tryd.ntmps123 rfl Tryd.call123 (by simp) ?_
 refine zo [(0, .str a0)] ⟨rfl, trivial⟩ ?_
 unfold value_Str at h
 refine rg tok [0, 2] fun K hK => ?_
 simp only [go_sem, rL, reduceCtorEq]
 refine hK _ _ ?_
 refine rg tok [2] fun K hK => ?_
 simp only [go_sem, rL, rD, rE, reduceCtorEq]
 refine hK _ _ ?_
 refine zj ?_
 obtain rfl := h
 exact retA
theorem value_Str.ev (a0 : List UInt8) (r : GValueValue) (h : value_Str a0 = r) (σ : Store) : ACalls Tryd.prog 123 [.str a0] σ (fun r' σ' => r' = .agg (encGValueValue r) ∧ σ' = σ) :=
 (value_Str.ok a0 r h).c σ
def slices_Clone_Raw (a0 : List GRaw) : Option (List GRaw) := (room (lN a0) 40).bind fun _ => some a0
theorem slices_Clone_Raw.ok (a0 r : List GRaw) (h : slices_Clone_Raw a0 = some r) : ACalls Tryd.prog 124 [.ds true (fM encGRaw a0) (lN a0) false] [] (fun r' _ => r' = .ds true (fM encGRaw r) (lN r) false) := by
 obtain ⟨_u, hu, h⟩ := bind_some h
 have gu := zQ hu
 obtain rfl := Option.some.inj h
 have f1 := fun nl tt σ => zo1 E22.len a0 nl tt σ
 have f2 := zr E22.len a0
 have f3 := zl2 encGRaw a0
 have fin : ∀ σ id ver tt, Store.at σ id ver = some (fM encGRaw a0) → tell σ [] true 12 (.os true 4 id ver 0 (lN a0) tt) = .ds true (fM encGRaw a0) (lN a0) false := by
  intro σ id ver tt hs
  simp only [zT1, zC1, hs, dZ, nZ]
  rw [if_pos (by rw [f2]; exact nR _), ← f2, List.take_length, zy]
 refine zm (rs := [.tmp 2]) tok Tryd.func124 rfl Tryd.ntmps124 rfl Tryd.call124 (by simp) ?_
 refine zo [(0, .ds true (fM encGRaw a0) (lN a0) false)] ⟨rfl, trivial⟩ ?_
 refine rg tok [0] fun K hK => ?_
 simp only [go_sem, rL, reduceCtorEq]
 refine hK _ _ ?_
 refine ze fun Z1 hZ1 => ?_
 refine rc [0, 4] fun K hK => ?_
 refine za tok 1 ?_
 simp only [go_sem, rL]
 refine zv4 tok rfl rfl rfl rfl rfl rfl fun b hnil => ?_
 have hb : b = true → a0 = [] := fun hb => by
  have := hnil hb
  simp only [zM, go_sem, reduceCtorEq] at this
  exact List.eq_nil_of_length_eq_zero this
 clear hnil
 refine zb ?_
 simp only [zd, updO, upd, rE, reduceIte, zl, zn]
 refine hK _ _ ?_
 cases b
 · refine zq rfl ?_
   refine zi ?_
   refine hZ1 _ _ ?_
   refine rg tok [2] fun K hK => ?_
   by_cases h0 : lN a0 = 0
   · obtain rfl := List.eq_nil_of_length_eq_zero h0
     simp only [go_sem, rL, rE, rA, reduceCtorEq, zC, zG, List.range_zero, Nat.zero_le, zL, zD, zM, zF, fZ, lZ, Nat.zero_mul, List.all_nil]
     refine hK _ _ ?_
     refine zj ?_
     simp only [retQ, zS, zT, zi1, exists_eq_left', go_sem]
     first | rfl | (simp only [go_sem, rL, rD, rE, rA, rM, rS, reduceIte, reduceCtorEq, zT1, zC1, mN] <;> rfl)
   · have h1 := eq_false h0
     simp only [go_sem, rL, rE, rA, reduceCtorEq, zC, zG, List.range_zero, Nat.zero_le, zL, zD, zM, f1, f3, h1, gu, zX, mN, nA, Nat.zero_mul]
     refine hK _ _ ?_
     refine zj ?_
     simp only [retQ, zS, zT, zi1, exists_eq_left', go_sem]
     exact fin _ _ _ _ (by simp only [Store.at_hd, Store.at_tl, if_true])
 · obtain rfl := hb rfl
   refine zt rfl ?_
   refine rg tok [2] fun K hK => ?_
   simp only [go_sem, rL, rE, reduceCtorEq]
   refine hK _ _ ?_
   refine zj ?_
   simp only [retQ, zS, zT, zi1, exists_eq_left', go_sem]
   first | rfl | (simp only [go_sem, rL, rD, rE, rA, rM, rS, reduceIte, reduceCtorEq, zU2, mN, Bool.or_true, Bool.not_true, Bool.and_false] <;> rfl)
theorem slices_Clone_Raw.own (a0 r : List GRaw) (h : slices_Clone_Raw a0 = some r) : ACalls Tryd.prog 124 [.ds true (fM encGRaw a0) (lN a0) false] [] (fun r' σ' => r' = .os true 4 0 0 0 (lN r) false ∧ σ' = [.cells 0 (fM encGRaw r)]) := by
 obtain ⟨_u, hu, h⟩ := bind_some h
 have gu := zQ hu
 obtain rfl := Option.some.inj h
 have f1 := fun nl tt σ => zo1 E22.len a0 nl tt σ
 have f2 := zr E22.len a0
 have f3 := zl2 encGRaw a0
 refine zM5 (rs := [.tmp 2]) tok Tryd.func124 rfl Tryd.ntmps124 rfl Tryd.call124 (by simp) ?_
 refine zo [(0, .ds true (fM encGRaw a0) (lN a0) false)] ⟨rfl, trivial⟩ ?_
 refine rg tok [0] fun K hK => ?_
 simp only [go_sem, rL, reduceCtorEq]
 refine hK _ _ ?_
 refine ze fun Z1 hZ1 => ?_
 refine rc [0, 4] fun K hK => ?_
 refine za tok 1 ?_
 simp only [go_sem, rL]
 refine zv4 tok rfl rfl rfl rfl rfl rfl fun b hnil => ?_
 have hb : b = true → a0 = [] := fun hb => by
  have := hnil hb
  simp only [zM, go_sem, reduceCtorEq] at this
  exact List.eq_nil_of_length_eq_zero this
 clear hnil
 refine zb ?_
 simp only [zd, updO, upd, rE, reduceIte, zl, zn]
 refine hK _ _ ?_
 cases b
 · refine zq rfl ?_
   refine zi ?_
   refine hZ1 _ _ ?_
   refine rg tok [2] fun K hK => ?_
   by_cases h0 : lN a0 = 0
   · obtain rfl := List.eq_nil_of_length_eq_zero h0
     simp only [go_sem, rL, rE, rA, reduceCtorEq, zC, zG, List.range_zero, Nat.zero_le, zL, zD, zM, zF, fZ, lZ, Nat.zero_mul, List.all_nil]
     refine hK _ _ ?_
     refine zj ?_
     simp only [retQ, zS, zT, zi1, exists_eq_left', go_sem]
     refine .inl ⟨0, true, by simp, ?_, ?_⟩
     · first | rfl | (simp only [go_sem, rL, rD, rE, rA, rM, rS, reduceIte, reduceCtorEq, zT1, zH1, if_true] <;> rfl)
     · first | rfl | (simp only [go_sem, rL, rD, rE, rA, rM, rS, reduceIte, reduceCtorEq, zD2, ze5, zq2, zF2, zE2, mN] <;> rfl)
   · have h1 := eq_false h0
     simp only [go_sem, rL, rE, rA, reduceCtorEq, zC, zG, List.range_zero, Nat.zero_le, zL, zD, zM, f1, f3, h1, gu, zX, mN, nA, Nat.zero_mul]
     refine hK _ _ ?_
     refine zj ?_
     simp only [retQ, zS, zT, zi1, exists_eq_left', go_sem, rA]
     refine .inl ⟨1, false, by simp, ?_, ?_⟩
     · first | rfl | (simp only [go_sem, rL, rD, rE, rA, rM, rS, reduceIte, reduceCtorEq, zT1, zH1, if_true] <;> rfl)
     · first | rfl | (simp only [go_sem, zD2, zq2, zF2, zE2, zy] <;> rfl)
 · obtain rfl := hb rfl
   refine zt rfl ?_
   refine rg tok [2] fun K hK => ?_
   simp only [go_sem, rL, rE, reduceCtorEq]
   refine hK _ _ ?_
   refine zj ?_
   simp only [retQ, zS, zT, zi1, exists_eq_left', go_sem]
   refine .inr ?_
   first | rfl | (simp only [go_sem, rL, rD, rE, rA, rM, rS, reduceIte, reduceCtorEq, zU2, mN, Bool.or_true, Bool.or_false, Bool.not_false, Bool.and_true] <;> rfl)
theorem slices_Clone_Raw.ev (a0 r : List GRaw) (h : slices_Clone_Raw a0 = some r) (σ : Store) : ACalls Tryd.prog 124 [.ds true (fM encGRaw a0) (lN a0) false] σ (fun r' σ' => r' = .ds true (fM encGRaw r) (lN r) false ∧ σ' = σ) :=
 (slices_Clone_Raw.ok a0 r h).pureAt (by simp only [AV.canon, canonL, canon_all, Bool.and_self, Bool.not_false, Bool.true_or]) (by simp only [AV.canon, canon_all, Bool.and_self, Bool.not_false, Bool.true_or]) σ
def value_made.l35 (self_value_made : GTree → Option GValueValue) (l14 : List GValueEntry) (x16 : Int) (rec20 : List GValueEntry → Int → Option GValueValue) (y25 : GEntry) : List GTree → Int → List GValueValue → Option GValueValue
 | [], x31, l29 => (room (lN l14 + 1) 32).bind fun _u37 => (rec20 (l14 ++ [(⟨y25.fTag, l29⟩ : GValueEntry)]) (IntKind.i64.wrap (x16 + 1)))
 | y35 :: q35, x31, l29 => (self_value_made y35).bind fun r43 => (room (lN l29 + 1) 16).bind fun _u45 => ((value_made.l35 self_value_made l14 x16 rec20 y25 q35) (x31 + 1) (l29 ++ [r43]))
def value_made.l20 (self_value_made : GTree → Option GValueValue) (a0 : GTree) (r12 : List GRaw) : Nat → List GValueEntry → Int → Option GValueValue
 | 0, _, _ => none
 | k20 + 1, l14, x16 => (if x16 < (lN a0.fEntries : Int) then (idxL a0.fEntries x16).bind fun y25 => (value_made.l35 self_value_made l14 x16 (value_made.l20 self_value_made a0 r12 k20) y25 y25.fTrees 0 ([] : List GValueValue)) else some (GValueValue.node l14 r12))
def value_made.l62 (self_value_made : GTree → Option GValueValue) (a0 : GTree) (r12 : List GRaw) (y52 : GEntry) : List GTree → Int → List GValueValue → Option GValueValue
 | [], x58, l56 => (value_made.l20 self_value_made a0 r12 rounds [(⟨y52.fTag, l56⟩ : GValueEntry)] (IntKind.i64.wrap (0 + 1)))
 | y62 :: q62, x58, l56 => (self_value_made y62).bind fun r68 => (room (lN l56 + 1) 16).bind fun _u70 => ((value_made.l62 self_value_made a0 r12 y52 q62) (x58 + 1) (l56 ++ [r68]))
def value_made.body (self_value_made : GTree → Option GValueValue) (a0 : GTree) : Option GValueValue :=
 (if a0.fKind = 1 then bnd (value_Num a0.fN) fun r4 => some r4 else (if a0.fKind = 2 then bnd (value_Str a0.fS) fun r9 => some r9 else (slices_Clone_Raw a0.fRest).bind fun r12 => (if 0 < (lN a0.fEntries : Int) then (idxL a0.fEntries 0).bind fun y52 => (value_made.l62 self_value_made a0 r12 y52 y52.fTrees 0 ([] : List GValueValue)) else some (GValueValue.node ([] : List GValueEntry) r12))))
theorem value_made.step (self_value_made : GTree → Option GValueValue) (ih_value_made : ∀ (a0 : GTree) (r : GValueValue), self_value_made a0 = some r → ACalls Tryd.prog 103 [.agg (cellsGTree a0)] [] (fun r' _ => r' = .agg (encGValueValue r))) (a0 : GTree) (r : GValueValue) (h : value_made.body self_value_made a0 = some r) : ACalls Tryd.prog 103 [.agg (cellsGTree a0)] [] (fun r' _ => r' = .agg (encGValueValue r)) := by
 have ev_value_made := fun a0 r h σ => (ih_value_made a0 r h).c σ
 refine zm (rs := [.cell 2 127]) tok Tryd.func103 rfl Tryd.ntmps103 rfl Tryd.call103 (by simp) ?_
 refine zo [(0, .agg (cellsGTree a0))] ⟨rfl, trivial⟩ ?_
 unfold value_made.body at h
 refine rg tok [1, 2] fun K hK => ?_
 simp only [go_sem, rL, rE, rA, reduceCtorEq, cellsGTree]
 refine hK _ _ ?_
 refine ze fun Z1 hZ1 => ?_
 refine rg tok [1, 2, 10] fun K hK => ?_
 simp only [go_sem, rL, rE, rA]
 refine hK _ _ ?_
 refine zk ?_
 refine rg tok [1, 2, 10, 11] fun K hK => ?_
 simp only [go_sem, rL, rE]
 refine hK _ _ ?_
 refine zA rfl (fun hc2 => ?_) (fun hc2 => ?_)
 · rw [if_pos hc2] at h
   have t3 := eq_true hc2
   refine rc [2] fun K hK => ?_
   obtain ⟨r4, hr4, h⟩ := zJ h
   refine za tok 2 ?_
   simp only [go_sem, rL, rE, rA, t3]
   refine zh rfl rfl rfl (value_Num.ev a0.fN r4 hr4 _) ?_
   rintro _ _ ⟨rfl, rfl⟩
   have f5 := zc2 r4
   unfold AV.one at f5
   refine za tok 1 ?_
   simp only [go_sem, rD, rE, encGValueValue, f5]
   refine zb ?_
   simp only [zd, upd, rE, reduceIte, zl, zn]
   refine hK _ _ ?_
   refine zj ?_
   obtain rfl := Option.some.inj h
   exact retA
 · rw [if_neg hc2] at h
   have t6 := eq_false hc2
   refine rg tok [1, 2, 16] fun K hK => ?_
   simp only [go_sem, rL, rE, t6]
   refine hK _ _ ?_
   refine zA rfl (fun hc7 => ?_) (fun hc7 => ?_)
   · rw [if_pos hc7] at h
     have t8 := eq_true hc7
     refine rc [2] fun K hK => ?_
     obtain ⟨r9, hr9, h⟩ := zJ h
     refine za tok 2 ?_
     simp only [go_sem, rL, rE, rA, t8]
     refine zh rfl rfl rfl (value_Str.ev a0.fS r9 hr9 _) ?_
     rintro _ _ ⟨rfl, rfl⟩
     have f10 := zc2 r9
     unfold AV.one at f10
     refine za tok 1 ?_
     simp only [go_sem, rD, rE, encGValueValue, f10]
     refine zb ?_
     simp only [zd, upd, rE, reduceIte, zl, zn]
     refine hK _ _ ?_
     refine zj ?_
     obtain rfl := Option.some.inj h
     exact retA
   · rw [if_neg hc7] at h
     have t11 := eq_false hc7
     refine zi ?_
     refine hZ1 _ _ ?_
     refine rc [1, 2, 3] fun K hK => ?_
     obtain ⟨r12, hr12, h⟩ := bind_some h
     refine za tok 2 ?_
     simp only [go_sem, rL, rE, rA, t11]
     refine zh rfl rfl rfl (slices_Clone_Raw.ev a0.fRest r12 hr12 _) ?_
     rintro _ _ ⟨rfl, rfl⟩
     refine za tok 3 ?_
     simp only [go_sem, rL, rD, rE, rA]
     refine zb ?_
     simp only [zd, upd, rE, reduceIte, zl, zn]
     refine hK _ _ ?_
     refine ze fun Z13 hZ13 => ?_
     refine rg tok [2, 3, 27, 28, 29] fun K hK => ?_
     simp only [go_sem, rL, rE, rA]
     refine hK _ _ ?_
     refine zk ?_
     refine awp_loopS1 (fun m L τ => ∃ (k20 : Nat) (l14 : List GValueEntry) (x16 : Int) (v15 : Nat), m = 0 + k20 ∧ L = ([(2, .op 0 0 0), (3, .op 1 0 0), (27, .ds true (fM encGEntry a0.fEntries) (lN a0.fEntries) false), (28, .int .i64 (lN a0.fEntries : Int)), (29, .int .i64 x16)] : List (Nat × AV)) ∧ τ = ([.cells 0 [.nilI], .cells 0 [.os true 2 2 v15 0 (lN l14) false, .ds true (fM encGRaw r12) (lN r12) false], .cells v15 (fM encGValueEntry l14)] : Store) ∧ value_made.l20 self_value_made a0 r12 k20 l14 x16 = some r) (rounds + 1) ?_ ?_
     · refine rg tok [2, 3, 27, 28, 29, 30] fun K hK => ?_
       simp only [go_sem, rL, rE]
       refine hK _ _ ?_
       refine ze fun Z48 hZ48 => ?_
       refine zA rfl (fun hc49 => ?_) (fun hc49 => ?_)
       · rw [if_pos hc49] at h
         have t50 := eq_true hc49
         refine zi ?_
         refine hZ48 _ _ ?_
         refine ze fun Z51 hZ51 => ?_
         refine zk ?_
         obtain ⟨y52, hy52, h⟩ := bind_some h
         have f53 := E40.idxS hy52
         have f54 := E40.loadS rfl rfl hy52
         refine rg tok [2, 3, 5, 27, 28, 29] fun K hK => ?_
         simp only [go_sem, rL, rD, rE, rA, cellsGEntry, zB, t50, f53, f54]
         refine hK _ _ ?_
         refine rg tok [2, 3, 5, 6, 27, 28, 29] fun K hK => ?_
         simp only [go_sem, rL, rD, rE, rA]
         refine hK _ _ ?_
         refine zW3 4 1 1 rfl (by simp) rfl (L := [(2, .op 1 0 0), (3, .op 2 0 0), (5, .op 3 0 0), (6, .op 4 0 0), (27, .ds true (fM encGEntry a0.fEntries) (lN a0.fEntries) false), (28, .int .i64 (lN a0.fEntries : Int)), (29, .int .i64 0)]) (τ := [.cells 0 [.int .i64 a0.fKind, .int .i64 a0.fN, .str a0.fS, .ds true (fM encGEntry a0.fEntries) (lN a0.fEntries) false, .ds true (fM encGRaw a0.fRest) (lN a0.fRest) false], .cells 0 [.nilI], .cells 0 [.ds true [] 0 true, .ds true (fM encGRaw r12) (lN r12) false], .cells 0 [.int .i64 y52.fTag, .ds true (fM encGTree y52.fTrees) (lN y52.fTrees) false], .cells 0 [.int .i64 y52.fTag, .os true 1 5 0 0 (lN ([] : List GValueValue)) false], .cells 0 (fM encGValueValue ([] : List GValueValue))]) .s ?_
         refine ze fun Z55 hZ55 => ?_
         refine rg tok [2, 3, 6, 27, 28, 29, 37, 38, 39] fun K hK => ?_
         simp only [go_sem, rL, rE, rA]
         refine hK _ _ ?_
         refine zk ?_
         refine zO 37 fun hb62 => ?_
         replace hb62 : lN y52.fTrees ≤ 9223372036854775807 := hb62.1
         refine zw (fun m L τ => ∃ (p62 q62 : List GTree) (x58 : Int) (l56 : List GValueValue) (v57 : Nat), m = lN q62 ∧ L = ([(2, .op 0 0 0), (3, .op 1 0 0), (6, .op 2 0 0), (27, .ds true (fM encGEntry a0.fEntries) (lN a0.fEntries) false), (28, .int .i64 (lN a0.fEntries : Int)), (29, .int .i64 0), (37, .ds true (fM encGTree y52.fTrees) (lN y52.fTrees) false), (38, .int .i64 (lN y52.fTrees : Int)), (39, .int .i64 x58)] : List (Nat × AV)) ∧ τ = ([.cells 0 [.nilI], .cells 0 [.ds true [] 0 true, .ds true (fM encGRaw r12) (lN r12) false], .cells 0 [.int .i64 y52.fTag, .os true 1 3 v57 0 (lN l56) false], .cells v57 (fM encGValueValue l56)] : Store) ∧ y52.fTrees = p62 ++ q62 ∧ x58 = (lN p62 : Int) ∧ value_made.l62 self_value_made a0 r12 y52 q62 x58 l56 = some r) _ ⟨[], y52.fTrees, 0, ([] : List GValueValue), 0, rfl, rfl, rfl, rfl, rfl, h⟩ (.t [1, 2, 4, 5] false) ?_
         rintro m L τ ⟨p62, q62, x58, l56, v57, rfl, rfl, rfl, hE62, hi62, h⟩
         rcases q62 with _ | ⟨y62, q62⟩
         · have hz62 := zN hE62 hi62
           simp only [value_made.l62] at h
           refine rg tok [2, 3, 6, 27, 28, 29, 37, 38, 39, 40] fun K hK => ?_
           simp only [go_sem, rL, rE, hz62]
           refine hK _ _ ?_
           refine ze fun Z63 hZ63 => ?_
           refine zq rfl ?_
           refine zz ?_
           refine hZ55 _ _ ?_
           refine rdE [2, 3, 27, 28, 29] fun K hK => ?_
           refine DW.start (T := tab) [.any, .any, .any, .any, .own 1 [], .at [], .eff, .eff, .any, .any, .eff] [(1, [])] ?_
           refine DW.runN tok 8 ?_
           simp only [go_sem, rL, rD, rE, rA, rM, reduceCtorEq, zC, zG, List.range_succ, List.range_zero, true_and, Nat.reduceMod, zL, zD, zM, zX, List.all_nil, List.all_cons, AV.one, Bool.and_self, nA, lC, lZ, nZ, cA]
           refine DW.runN tok 3 ?_
           simp only [go_sem, rL, rD, rE, rA, lC, lZ, nZ]
           refine DW.fin tok (by decide +kernel) rfl ?_
           simp only [zd, upd, rE, reduceIte, zl, zn]
           refine hK _ _ ?_
           refine hZ51 _ _ ?_
           refine rgE tok [2, 3, 27, 28, 29] fun K hK => ?_
           simp only [go_sem, rL, rE]
           refine hK _ _ ?_
           exact ⟨_, _, _, (Nat.lt_succ_of_le (Nat.le_of_eq (nZ rounds))), ⟨rounds, [(⟨y52.fTag, l56⟩ : GValueEntry)], IntKind.i64.wrap (0 + 1), 0, rfl, rfl, rfl, h⟩, (.t [0, 1, 5] false)⟩
         · obtain ⟨hz62, hw62, hx62, hE'62, hi'62⟩ := zK hE62 hi62 hb62
           simp only [value_made.l62] at h
           refine rg tok [2, 3, 6, 27, 28, 29, 37, 38, 39, 40] fun K hK => ?_
           simp only [go_sem, rL, rE, hz62]
           refine hK _ _ ?_
           refine ze fun Z64 hZ64 => ?_
           refine zt rfl ?_
           refine zi ?_
           refine hZ64 _ _ ?_
           refine ze fun Z65 hZ65 => ?_
           refine zk ?_
           have f66 := E59.idxS hx62
           have f67 := E59.loadS rfl rfl hx62
           refine rg tok [2, 3, 6, 8, 27, 28, 29, 37, 38, 39] fun K hK => ?_
           simp only [go_sem, rL, rD, rE, rA, cellsGTree, zR, f66, f67]
           refine hK _ _ ?_
           obtain ⟨r68, hr68, h⟩ := bind_some h
           have f69 := zc2 r68
           unfold AV.one at f69
           obtain ⟨_u70, hu70, h⟩ := bind_some h
           have gu70 := zQ hu70
           have f71 := (zr E155.len l56)
           refine rdE [2, 3, 6, 27, 28, 29, 37, 38, 39] fun K hK => ?_
           refine DW.start (T := tab) [.any, .own 2 [], .at [], .eff, .eff, .eff, .any, .eff] [(2, [])] ?_
           refine DW.runN tok 3 ?_
           simp only [go_sem, rL, rD, rE, rA, encGValueValue, lC, lZ, nZ]
           refine DW.call rfl rfl rfl (ev_value_made y62 r68 hr68 _) ?_
           refine DW.runN tok 4 ?_
           simp only [go_sem, rL, rD, rE, rA, rM, zC, zG, List.range_succ, List.range_zero, true_and, Nat.reduceMod, zL, zD, zM, encGValueValue, f69, gu70, f71, zX, List.all_nil, List.all_cons, AV.one, Bool.and_self, nA, lC, lZ, nZ, cA]
           refine DW.fin tok (by decide +kernel) rfl ?_
           simp only [zd, upd, rE, reduceIte, zl, zn]
           refine hK _ _ ?_
           refine hZ65 _ _ ?_
           refine rgE tok [2, 3, 6, 27, 28, 29, 37, 38, 39] fun K hK => ?_
           simp only [go_sem, rL, rE, hw62]
           refine hK _ _ ?_
           exact ⟨_, _, _, nS q62.length, ⟨p62 ++ [y62], q62, x58 + 1, l56 ++ [r68], v57 + 1, rfl, rfl, rfl, hE'62, hi'62, h⟩, (.t [0, 1, 2, 3] false)⟩
       · rw [if_neg hc49] at h
         have t72 := eq_false hc49
         refine zz ?_
         refine hZ13 _ _ ?_
         refine rg tok [2] fun K hK => ?_
         simp only [go_sem, rL, rD, rE, t72]
         refine hK _ _ ?_
         refine zj ?_
         obtain rfl := Option.some.inj h
         exact retA
     · clear h
       rintro m L τ ⟨k20, l14, x16, v15, rfl, rfl, rfl, h⟩
       rcases k20 with _ | k20
       · cases h
       · simp only [value_made.l20] at h
         refine rg tok [2, 3, 27, 28, 29, 30] fun K hK => ?_
         simp only [go_sem, rL, rE]
         refine hK _ _ ?_
         refine ze fun Z21 hZ21 => ?_
         refine zA rfl (fun hc22 => ?_) (fun hc22 => ?_)
         · rw [if_pos hc22] at h
           have t23 := eq_true hc22
           refine zi ?_
           refine hZ21 _ _ ?_
           refine ze fun Z24 hZ24 => ?_
           refine zk ?_
           obtain ⟨y25, hy25, h⟩ := bind_some h
           have f26 := E40.idxS hy25
           have f27 := E40.loadS rfl rfl hy25
           refine rg tok [2, 3, 5, 27, 28, 29] fun K hK => ?_
           simp only [go_sem, rL, rD, rE, rA, cellsGEntry, zB, t23, f26, f27]
           refine hK _ _ ?_
           refine rg tok [2, 3, 5, 6, 27, 28, 29] fun K hK => ?_
           simp only [go_sem, rL, rD, rE, rA]
           refine hK _ _ ?_
           refine zW3 4 1 1 rfl (by simp) rfl (L := [(2, .op 0 0 0), (3, .op 1 0 0), (5, .op 3 0 0), (6, .op 4 0 0), (27, .ds true (fM encGEntry a0.fEntries) (lN a0.fEntries) false), (28, .int .i64 (lN a0.fEntries : Int)), (29, .int .i64 x16)]) (τ := [.cells 0 [.nilI], .cells 0 [.os true 2 2 v15 0 (lN l14) false, .ds true (fM encGRaw r12) (lN r12) false], .cells v15 (fM encGValueEntry l14), .cells 0 [.int .i64 y25.fTag, .ds true (fM encGTree y25.fTrees) (lN y25.fTrees) false], .cells 0 [.int .i64 y25.fTag, .os true 1 5 0 0 (lN ([] : List GValueValue)) false], .cells 0 (fM encGValueValue ([] : List GValueValue))]) .s ?_
           refine ze fun Z28 hZ28 => ?_
           refine rg tok [2, 3, 6, 27, 28, 29, 37, 38, 39] fun K hK => ?_
           simp only [go_sem, rL, rE, rA]
           refine hK _ _ ?_
           refine zk ?_
           refine zO 37 fun hb35 => ?_
           replace hb35 : lN y25.fTrees ≤ 9223372036854775807 := hb35.1
           refine zw (fun m L τ => ∃ (p35 q35 : List GTree) (x31 : Int) (l29 : List GValueValue) (v30 : Nat), m = lN q35 ∧ L = ([(2, .op 0 0 0), (3, .op 1 0 0), (6, .op 3 0 0), (27, .ds true (fM encGEntry a0.fEntries) (lN a0.fEntries) false), (28, .int .i64 (lN a0.fEntries : Int)), (29, .int .i64 x16), (37, .ds true (fM encGTree y25.fTrees) (lN y25.fTrees) false), (38, .int .i64 (lN y25.fTrees : Int)), (39, .int .i64 x31)] : List (Nat × AV)) ∧ τ = ([.cells 0 [.nilI], .cells 0 [.os true 2 2 v15 0 (lN l14) false, .ds true (fM encGRaw r12) (lN r12) false], .cells v15 (fM encGValueEntry l14), .cells 0 [.int .i64 y25.fTag, .os true 1 4 v30 0 (lN l29) false], .cells v30 (fM encGValueValue l29)] : Store) ∧ y25.fTrees = p35 ++ q35 ∧ x31 = (lN p35 : Int) ∧ value_made.l35 self_value_made l14 x16 (value_made.l20 self_value_made a0 r12 k20) y25 q35 x31 l29 = some r) _ ⟨[], y25.fTrees, 0, ([] : List GValueValue), 0, rfl, rfl, rfl, rfl, rfl, h⟩ (.t [0, 1, 2, 4, 5] false) ?_
           rintro m L τ ⟨p35, q35, x31, l29, v30, rfl, rfl, rfl, hE35, hi35, h⟩
           rcases q35 with _ | ⟨y35, q35⟩
           · have hz35 := zN hE35 hi35
             simp only [value_made.l35] at h
             refine rg tok [2, 3, 6, 27, 28, 29, 37, 38, 39, 40] fun K hK => ?_
             simp only [go_sem, rL, rE, hz35]
             refine hK _ _ ?_
             refine ze fun Z36 hZ36 => ?_
             refine zq rfl ?_
             refine zz ?_
             refine hZ28 _ _ ?_
             obtain ⟨_u37, hu37, h⟩ := bind_some h
             have gu37 := zQ hu37
             have f38 := (zr E172.len l14)
             refine rdE [2, 3, 27, 28, 29] fun K hK => ?_
             refine DW.start (T := tab) [.any, .any, .any, .any, .own 1 [], .at [], .eff, .eff, .any, .any, .eff] [(1, [])] ?_
             refine DW.runN tok 8 ?_
             simp only [go_sem, rL, rD, rE, rA, rM, zC, zG, List.range_succ, List.range_zero, true_and, Nat.reduceMod, zL, zD, zM, gu37, f38, zX, List.all_nil, List.all_cons, AV.one, Bool.and_self, nA, lC, lZ, nZ, cA]
             refine DW.runN tok 3 ?_
             simp only [go_sem, rL, rD, rE, rA, lC, lZ, nZ]
             refine DW.fin tok (by decide +kernel) rfl ?_
             simp only [zd, upd, rE, reduceIte, zl, zn]
             refine hK _ _ ?_
             refine hZ24 _ _ ?_
             refine rgE tok [2, 3, 27, 28, 29] fun K hK => ?_
             simp only [go_sem, rL, rE]
             refine hK _ _ ?_
             exact ⟨_, _, _, nS (0 + k20), ⟨k20, l14 ++ [(⟨y25.fTag, l29⟩ : GValueEntry)], IntKind.i64.wrap (x16 + 1), v15 + 1, rfl, rfl, rfl, h⟩, (.t [0, 1, 2] false)⟩
           · obtain ⟨hz35, hw35, hx35, hE'35, hi'35⟩ := zK hE35 hi35 hb35
             simp only [value_made.l35] at h
             refine rg tok [2, 3, 6, 27, 28, 29, 37, 38, 39, 40] fun K hK => ?_
             simp only [go_sem, rL, rE, hz35]
             refine hK _ _ ?_
             refine ze fun Z39 hZ39 => ?_
             refine zt rfl ?_
             refine zi ?_
             refine hZ39 _ _ ?_
             refine ze fun Z40 hZ40 => ?_
             refine zk ?_
             have f41 := E59.idxS hx35
             have f42 := E59.loadS rfl rfl hx35
             refine rg tok [2, 3, 6, 8, 27, 28, 29, 37, 38, 39] fun K hK => ?_
             simp only [go_sem, rL, rD, rE, rA, cellsGTree, zR, f41, f42]
             refine hK _ _ ?_
             obtain ⟨r43, hr43, h⟩ := bind_some h
             have f44 := zc2 r43
             unfold AV.one at f44
             obtain ⟨_u45, hu45, h⟩ := bind_some h
             have gu45 := zQ hu45
             have f46 := (zr E155.len l29)
             refine rdE [2, 3, 6, 27, 28, 29, 37, 38, 39] fun K hK => ?_
             refine DW.start (T := tab) [.any, .own 2 [], .at [], .eff, .eff, .eff, .any, .eff] [(2, [])] ?_
             refine DW.runN tok 3 ?_
             simp only [go_sem, rL, rD, rE, rA, encGValueValue, lC, lZ, nZ]
             refine DW.call rfl rfl rfl (ev_value_made y35 r43 hr43 _) ?_
             refine DW.runN tok 4 ?_
             simp only [go_sem, rL, rD, rE, rA, rM, zC, zG, List.range_succ, List.range_zero, true_and, Nat.reduceMod, zL, zD, zM, encGValueValue, f44, gu45, f46, zX, List.all_nil, List.all_cons, AV.one, Bool.and_self, nA, lC, lZ, nZ, cA]
             refine DW.fin tok (by decide +kernel) rfl ?_
             simp only [zd, upd, rE, reduceIte, zl, zn]
             refine hK _ _ ?_
             refine hZ40 _ _ ?_
             refine rgE tok [2, 3, 6, 27, 28, 29, 37, 38, 39] fun K hK => ?_
             simp only [go_sem, rL, rE, hw35]
             refine hK _ _ ?_
             exact ⟨_, _, _, nS q35.length, ⟨p35 ++ [y35], q35, x31 + 1, l29 ++ [r43], v30 + 1, rfl, rfl, rfl, hE'35, hi'35, h⟩, (.t [0, 1, 2, 3, 4] false)⟩
         · rw [if_neg hc22] at h
           have t47 := eq_false hc22
           refine zz ?_
           refine hZ13 _ _ ?_
           refine rg tok [2] fun K hK => ?_
           simp only [go_sem, rL, rD, rE, t47]
           refine hK _ _ ?_
           refine zj ?_
           obtain rfl := Option.some.inj h
           exact retA
def value_made : Nat → GTree → Option GValueValue
 | 0, _ => none
 | k + 1, a0 => value_made.body (value_made k) a0
theorem value_made.all (k : Nat) : (∀ (a0 : GTree) (r : GValueValue), value_made k a0 = some r → ACalls Tryd.prog 103 [.agg (cellsGTree a0)] [] (fun r' _ => r' = .agg (encGValueValue r))) := by
 induction k with
 | zero => exact (fun a0 r h => by simp only [value_made] at h; cases h)
 | succ k ih => exact (fun a0 r h => value_made.step _ ih a0 r (by simpa only [value_made] using h))
theorem value_made.ev (k : Nat) (a0 : GTree) (r : GValueValue) (h : value_made k a0 = some r) (σ : Store) : ACalls Tryd.prog 103 [.agg (cellsGTree a0)] σ (fun r' σ' => r' = .agg (encGValueValue r) ∧ σ' = σ) :=
 ((value_made.all k) a0 r h).c σ
def value_Of (a0 : GTree) : Option (GValueValue × Bool) :=
 (value_Check a0).bind fun r2 => (if (!r2) = true then some (GValueValue.nil, false) else (value_made rounds a0).bind fun r4 => some (r4, true))
theorem value_Of.ok (a0 : GTree) (r : GValueValue × Bool) (h : value_Of a0 = some r) : ACalls Tryd.prog 74 [.agg (cellsGTree a0)] [] (fun r' _ => r' = .tup [.agg (encGValueValue r.1), .bool r.2]) := by
 refine zm (rs := [.cell 2 127, .tmp 3]) tok Tryd.func74 rfl Tryd.ntmps74 rfl Tryd.call74 (by simp) ?_
 refine zo [(0, .agg (cellsGTree a0))] ⟨rfl, trivial⟩ ?_
 unfold value_Of at h
 refine rg tok [1, 2] fun K hK => ?_
 simp only [go_sem, rL, rE, rA, reduceCtorEq, cellsGTree]
 refine hK _ _ ?_
 refine ze fun Z1 hZ1 => ?_
 refine rc [1, 2, 6] fun K hK => ?_
 obtain ⟨r2, hr2, h⟩ := bind_some h
 refine za tok 1 ?_
 simp only [go_sem, rL, rD, rE, rA]
 refine zh rfl rfl rfl (value_Check.ev a0 r2 hr2 _) ?_
 rintro _ _ ⟨rfl, rfl⟩
 refine za tok 1 ?_
 simp only [go_sem, rL, rE]
 refine zb ?_
 simp only [zd, upd, rE, reduceIte, zl, zn]
 refine hK _ _ ?_
 refine zx (b := (!r2)) rfl (fun hc3 => ?_) (fun hc3 => ?_)
 · rw [if_pos hc3] at h
   refine rg tok [2, 3] fun K hK => ?_
   simp only [go_sem, rL, rD, rE]
   refine hK _ _ ?_
   refine zj ?_
   obtain rfl := Option.some.inj h
   exact retA
 · rw [if_F hc3] at h
   refine zi ?_
   refine hZ1 _ _ ?_
   refine rc [2, 3] fun K hK => ?_
   obtain ⟨r4, hr4, h⟩ := bind_some h
   refine za tok 1 ?_
   simp only [go_sem, rL, rD, rE, rA]
   refine zh rfl rfl rfl (value_made.ev rounds a0 r4 hr4 _) ?_
   rintro _ _ ⟨rfl, rfl⟩
   have f5 := zc2 r4
   unfold AV.one at f5
   refine za tok 2 ?_
   simp only [go_sem, rL, rD, rE, encGValueValue, f5]
   refine zb ?_
   simp only [zd, upd, rE, reduceIte, zl, zn]
   refine hK _ _ ?_
   refine zj ?_
   obtain rfl := Option.some.inj h
   exact retA
theorem value_Of.ev (a0 : GTree) (r : GValueValue × Bool) (h : value_Of a0 = some r) (σ : Store) : ACalls Tryd.prog 74 [.agg (cellsGTree a0)] σ (fun r' σ' => r' = .tup [.agg (encGValueValue r.1), .bool r.2] ∧ σ' = σ) :=
 (value_Of.ok a0 r h).c σ
def value_Value_MustNode (a0 : GValueValue) : Option GValueNode :=
 (match a0 with | .nil => none | .num n2 => none | .str s2 => none | .node e2 r2 => some (⟨e2, r2⟩ : GValueNode))
theorem value_Value_MustNode.ok (a0 : GValueValue) (r : GValueNode) (h : value_Value_MustNode a0 = some r) : ACalls Tryd.prog 76 [.agg (encGValueValue a0)] [] (fun r' _ => r' = .dp (encGValueNode r) 0) := by
 refine zm (rs := [.tmp 2]) tok Tryd.func76 rfl Tryd.ntmps76 rfl Tryd.call76 (by simp) ?_
 refine zo [(0, .agg (encGValueValue a0))] ⟨rfl, trivial⟩ ?_
 unfold value_Value_MustNode at h
 have f1 := zc2 a0
 unfold AV.one at f1
 refine rg tok [1] fun K hK => ?_
 simp only [go_sem, rL, rE, reduceCtorEq, encGValueValue, f1]
 refine hK _ _ ?_
 rcases a0 with _ | n2 | s2 | ⟨e2, r2⟩
 · dsimp only at h
   try simp only [zV4]
   cases h
 · dsimp only at h
   try simp only [zU4]
   cases h
 · dsimp only at h
   try simp only [zT4]
   cases h
 · dsimp only at h
   try simp only [zv3]
   refine rg tok [2] fun K hK => ?_
   simp only [go_sem, rL, rE, zf1, zh1, TypeDesc.isIface]
   refine hK _ _ ?_
   refine zj ?_
   obtain rfl := Option.some.inj h
   exact retA
theorem value_Value_MustNode.ev (a0 : GValueValue) (r : GValueNode) (h : value_Value_MustNode a0 = some r) (σ : Store) : ACalls Tryd.prog 76 [.agg (encGValueValue a0)] σ (fun r' σ' => r' = .dp (encGValueNode r) 0 ∧ σ' = σ) :=
 (value_Value_MustNode.ok a0 r h).c σ
def value_Node_Rest (a0 : GValueNode) : Option (List GRaw) :=
 (slices_Clone_Raw a0.frest).bind fun r1 => some r1
theorem value_Node_Rest.own (a0 : GValueNode) (r : List GRaw) (h : value_Node_Rest a0 = some r) : ACalls Tryd.prog 104 [.dp (encGValueNode a0) 0] [] (fun r' σ' => r' = .os true 4 0 0 0 (lN r) false ∧ σ' = [.cells 0 (fM encGRaw r)]) := by
 refine ACalls.own0 (by simp only [push_cast]) ?_
 refine zp2 (rs := [.tmp 2]) tok Tryd.func104 rfl Tryd.ntmps104 rfl Tryd.call104 (by simp) ?_
 refine zo [(0, .dp (encGValueNode a0) 0)] ⟨rfl, trivial⟩ ?_
 unfold value_Node_Rest at h
 refine rg tok [0] fun K hK => ?_
 simp only [go_sem, rL, reduceCtorEq]
 refine hK _ _ ?_
 refine rc [2] fun K hK => ?_
 obtain ⟨r1, hr1, h⟩ := bind_some h
 refine za tok 4 ?_
 simp only [go_sem, rL, rE, rA, reduceCtorEq, encGValueNode, zg4]
 refine zh rfl rfl rfl (@id (ACalls Tryd.prog 124 [.ds true (fM encGRaw a0.frest) (lN a0.frest) false] [] (fun r' σ' => r' = .os true 4 0 0 0 (lN r1) false ∧ σ' = [.cells 0 (fM encGRaw r1)])) ((slices_Clone_Raw.own a0.frest r1 hr1).ownAt0 (by simp only [push_cast]) (by simp only [push_cast]) _)) ?_
 rintro _ _ ⟨rfl, rfl⟩
 refine za tok 1 ?_
 simp only [go_sem, rL, rE, reduceCtorEq]
 refine zb ?_
 simp only [zd, upd, rE, reduceIte, zl, zn]
 refine hK _ _ ?_
 refine zj ?_
 obtain rfl := Option.some.inj h
 simp only [retQ, zS, zT, zi1, exists_eq_left', go_sem]
 refine ⟨0, 0, by simp, ?_, ?_⟩
 · first | rfl | (simp only [go_sem, rL, rD, rE, rA, rM, rS, reduceIte, reduceCtorEq, push_cast, if_true, dZ, nZ, mC, mN, mP, Bool.or_true, Bool.or_false, Bool.and_true, Bool.and_false, Bool.not_true, Bool.not_false, zy, encGRaw] <;> rfl)
 · first | rfl | (simp only [go_sem, push_cast, mN, zy] <;> rfl)
def value_Node_Tags.l8 : List GValueEntry → Int → List Int → Option (List Int)
 | [], x4, l2 => some l2
 | y8 :: q8, x4, l2 => (room (lN l2 + 1) 8).bind fun _u14 => ((value_Node_Tags.l8 q8) (x4 + 1) (l2 ++ [y8.ftag]))
def value_Node_Tags (a0 : GValueNode) : Option (List Int) :=
 (value_Node_Tags.l8 a0.fentries 0 ([] : List Int))
theorem value_Node_Tags.own (a0 : GValueNode) (r : List Int) (h : value_Node_Tags a0 = some r) : ACalls Tryd.prog 105 [.dp (encGValueNode a0) 0] [] (fun r' σ' => r' = .os true 1 0 0 0 (lN r) false ∧ σ' = [.cells 0 (fM encI r)]) := by
 refine ACalls.own0 (by simp only [push_cast]) ?_
 refine zp2 (rs := [.tmp 2]) tok Tryd.func105 rfl Tryd.ntmps105 rfl Tryd.call105 (by simp) ?_
 refine zo [(0, .dp (encGValueNode a0) 0)] ⟨rfl, trivial⟩ ?_
 unfold value_Node_Tags at h
 refine rg tok [0] fun K hK => ?_
 simp only [go_sem, rL, reduceCtorEq]
 refine hK _ _ ?_
 refine rg tok [0, 3] fun K hK => ?_
 simp only [go_sem, rL, reduceCtorEq]
 refine hK _ _ ?_
 refine zw2 3 1 rfl ?_
 refine zH (L := [(0, .dp (encGValueNode a0) 0), (3, .os true 1 0 0 0 (lN ([] : List Int)) false)]) (τ := [.cells 0 (fM encI ([] : List Int))]) .s ?_
 refine ze fun Z1 hZ1 => ?_
 refine rg tok [3, 9, 10, 11] fun K hK => ?_
 simp only [go_sem, rL, rE, rA, reduceCtorEq, encGValueNode, zg4]
 refine hK _ _ ?_
 refine zk ?_
 refine zO 9 fun hb8 => ?_
 replace hb8 : lN a0.fentries ≤ 9223372036854775807 := hb8.1
 refine zw (fun m L τ => ∃ (p8 q8 : List GValueEntry) (x4 : Int) (l2 : List Int) (v3 : Nat), m = lN q8 ∧ L = ([(3, .os true 1 0 v3 0 (lN l2) false), (9, .ds true (fM encGValueEntry a0.fentries) (lN a0.fentries) false), (10, .int .i64 (lN a0.fentries : Int)), (11, .int .i64 x4)] : List (Nat × AV)) ∧ τ = ([.cells v3 (fM encI l2)] : Store) ∧ a0.fentries = p8 ++ q8 ∧ x4 = (lN p8 : Int) ∧ value_Node_Tags.l8 q8 x4 l2 = some r) _ ⟨[], a0.fentries, 0, ([] : List Int), 0, rfl, rfl, rfl, rfl, rfl, h⟩ .s ?_
 rintro m L τ ⟨p8, q8, x4, l2, v3, rfl, rfl, rfl, hE8, hi8, h⟩
 rcases q8 with _ | ⟨y8, q8⟩
 · have hz8 := zN hE8 hi8
   simp only [value_Node_Tags.l8] at h
   refine rg tok [3, 9, 10, 11, 12] fun K hK => ?_
   simp only [go_sem, rL, rE, hz8]
   refine hK _ _ ?_
   refine ze fun Z9 hZ9 => ?_
   refine zq rfl ?_
   refine zz ?_
   refine hZ1 _ _ ?_
   refine rg tok [2] fun K hK => ?_
   simp only [go_sem, rL, rE]
   refine hK _ _ ?_
   refine zj ?_
   obtain rfl := Option.some.inj h
   simp only [retQ, zS, zT, zi1, exists_eq_left', go_sem]
   refine ⟨0, v3, by simp, ?_, ?_⟩
   · first | rfl | (simp only [go_sem, rL, rD, rE, rA, rM, rS, reduceIte, reduceCtorEq, push_cast, if_true, dZ, nZ, mC, mN, mP, Bool.or_true, Bool.or_false, Bool.and_true, Bool.and_false, Bool.not_true, Bool.not_false, zy] <;> rfl)
   · first | rfl | (simp only [go_sem, push_cast, mN, zy] <;> rfl)
 · obtain ⟨hz8, hw8, hx8, hE'8, hi'8⟩ := zK hE8 hi8 hb8
   simp only [value_Node_Tags.l8] at h
   refine rg tok [3, 9, 10, 11, 12] fun K hK => ?_
   simp only [go_sem, rL, rE, hz8]
   refine hK _ _ ?_
   refine ze fun Z10 hZ10 => ?_
   refine zt rfl ?_
   refine zi ?_
   refine hZ10 _ _ ?_
   refine ze fun Z11 hZ11 => ?_
   refine zk ?_
   have f12 := E172.idxS hx8
   have f13 := E172.loadS rfl rfl hx8
   refine rg tok [3, 5, 9, 10, 11] fun K hK => ?_
   simp only [go_sem, rL, rD, rE, rA, cellsGValueEntry, ze1, f12, f13]
   refine hK _ _ ?_
   obtain ⟨_u14, hu14, h⟩ := bind_some h
   have gu14 := zQ hu14
   have f15 := (zr E24.len l2)
   refine rgE tok [3, 9, 10, 11] fun K hK => ?_
   simp only [go_sem, rL, rD, rE, rA, rM, zC, zG, List.range_succ, List.range_zero, true_and, Nat.reduceMod, zL, zD, zM, gu14, f15, zX, List.all_nil, List.all_cons, AV.one, Bool.and_self, nA, lC, lZ, nZ, cA]
   refine hK _ _ ?_
   refine hZ11 _ _ ?_
   refine rgE tok [3, 9, 10, 11] fun K hK => ?_
   simp only [go_sem, rL, rE, hw8]
   refine hK _ _ ?_
   exact ⟨_, _, _, nS q8.length, ⟨p8 ++ [y8], q8, x4 + 1, l2 ++ [y8.ftag], v3 + 1, rfl, rfl, rfl, hE'8, hi'8, h⟩, (.t [0] false)⟩
theorem value_Node_Tags.ok (a0 : GValueNode) (r : List Int) (h : value_Node_Tags a0 = some r) : ACalls Tryd.prog 105 [.dp (encGValueNode a0) 0] [] (fun r' _ => r' = .ds true (fM encI r) (lN r) false) :=
 (value_Node_Tags.own a0 r h).ownData (zr E24.len r) (by simp only [push_cast])
theorem value_Node_Tags.ev (a0 : GValueNode) (r : List Int) (h : value_Node_Tags a0 = some r) (σ : Store) : ACalls Tryd.prog 105 [.dp (encGValueNode a0) 0] σ (fun r' σ' => r' = .ds true (fM encI r) (lN r) false ∧ σ' = σ) :=
 (value_Node_Tags.ok a0 r h).c σ
def slices_Clone_Value (a0 : List GValueValue) : Option (List GValueValue) := (room (lN a0) 16).bind fun _ => some a0
theorem slices_Clone_Value.own (a0 r : List GValueValue) (h : slices_Clone_Value a0 = some r) : ACalls Tryd.prog 125 [.ds true (fM encGValueValue a0) (lN a0) false] [] (fun r' σ' => r' = .os true 1 0 0 0 (lN r) false ∧ σ' = [.cells 0 (fM encGValueValue r)]) := by
 obtain ⟨_u, hu, h⟩ := bind_some h
 have gu := zQ hu
 obtain rfl := Option.some.inj h
 have f1 := fun nl tt σ => zo1 E155.len a0 nl tt σ
 have f2 := zr E155.len a0
 have f3 := zl2 encGValueValue a0
 refine zM5 (rs := [.tmp 2]) tok Tryd.func125 rfl Tryd.ntmps125 rfl Tryd.call125 (by simp) ?_
 refine zo [(0, .ds true (fM encGValueValue a0) (lN a0) false)] ⟨rfl, trivial⟩ ?_
 refine rg tok [0] fun K hK => ?_
 simp only [go_sem, rL, reduceCtorEq]
 refine hK _ _ ?_
 refine ze fun Z1 hZ1 => ?_
 refine rc [0, 4] fun K hK => ?_
 refine za tok 1 ?_
 simp only [go_sem, rL]
 refine zv4 tok rfl rfl rfl rfl rfl rfl fun b hnil => ?_
 have hb : b = true → a0 = [] := fun hb => by
  have := hnil hb
  simp only [zM, go_sem, reduceCtorEq] at this
  exact List.eq_nil_of_length_eq_zero this
 clear hnil
 refine zb ?_
 simp only [zd, updO, upd, rE, reduceIte, zl, zn]
 refine hK _ _ ?_
 cases b
 · refine zq rfl ?_
   refine zi ?_
   refine hZ1 _ _ ?_
   refine rg tok [2] fun K hK => ?_
   by_cases h0 : lN a0 = 0
   · obtain rfl := List.eq_nil_of_length_eq_zero h0
     simp only [go_sem, rL, rE, reduceCtorEq, zC, zG, List.range_zero, Nat.zero_le, zL, zD, zM, zF, fZ, lZ, Nat.zero_mul, List.all_nil]
     refine hK _ _ ?_
     refine zj ?_
     simp only [retQ, zS, zT, zi1, exists_eq_left', go_sem]
     refine .inl ⟨0, true, by simp, ?_, ?_⟩
     · first | rfl | (simp only [go_sem, rL, rD, rE, rA, rM, rS, reduceIte, reduceCtorEq, zT1, zH1, if_true] <;> rfl)
     · first | rfl | (simp only [go_sem, rL, rD, rE, rA, rM, rS, reduceIte, reduceCtorEq, zD2, ze5, zq2, zF2, zE2, mN] <;> rfl)
   · have h1 := eq_false h0
     simp only [go_sem, rL, rE, reduceCtorEq, zC, zG, List.range_zero, Nat.zero_le, zL, zD, zM, f1, f3, h1, gu, zX, mN, nA, Nat.zero_mul]
     refine hK _ _ ?_
     refine zj ?_
     simp only [retQ, zS, zT, zi1, exists_eq_left', go_sem, rA]
     refine .inl ⟨1, false, by simp, ?_, ?_⟩
     · first | rfl | (simp only [go_sem, rL, rD, rE, rA, rM, rS, reduceIte, reduceCtorEq, zT1, zH1, if_true] <;> rfl)
     · first | rfl | (simp only [go_sem, zD2, zq2, zF2, zE2, zy] <;> rfl)
 · obtain rfl := hb rfl
   refine zt rfl ?_
   refine rg tok [2] fun K hK => ?_
   simp only [go_sem, rL, rE, reduceCtorEq]
   refine hK _ _ ?_
   refine zj ?_
   simp only [retQ, zS, zT, zi1, exists_eq_left', go_sem]
   refine .inr ?_
   first | rfl | (simp only [go_sem, rL, rD, rE, rA, rM, rS, reduceIte, reduceCtorEq, zU2, mN, Bool.or_true, Bool.or_false, Bool.not_false, Bool.and_true] <;> rfl)
def value_Node_Get.l4 (a1 : Int) : List GValueEntry → Int → Option (List GValueValue)
 | [], x2 => some ([] : List GValueValue)
 | y4 :: q4, x2 => (if y4.ftag = a1 then (slices_Clone_Value y4.fl).bind fun r12 => some r12 else ((value_Node_Get.l4 a1 q4) (x2 + 1)))
def value_Node_Get (a0 : GValueNode) (a1 : Int) : Option (List GValueValue) :=
 (value_Node_Get.l4 a1 a0.fentries 0)
theorem value_Node_Get.ok (a0 : GValueNode) (a1 : Int) (r : List GValueValue) (h : value_Node_Get a0 a1 = some r) : ACalls Tryd.prog 106 [.dp (encGValueNode a0) 0, .int .i64 a1] [] (fun r' _ => r' = .ds true (fM encGValueValue r) (lN r) false) := by
 refine zm (rs := [.tmp 4]) tok Tryd.func106 rfl Tryd.ntmps106 rfl Tryd.call106 (by simp) ?_
 refine zo [(0, .dp (encGValueNode a0) 0), (1, .int .i64 a1)] ⟨rfl, rfl, trivial⟩ ?_
 unfold value_Node_Get at h
 refine rg tok [0, 1] fun K hK => ?_
 simp only [go_sem, rL, rE, reduceCtorEq]
 refine hK _ _ ?_
 refine ze fun Z1 hZ1 => ?_
 refine rg tok [1, 10, 11, 12] fun K hK => ?_
 simp only [go_sem, rL, rE, rA, reduceCtorEq, encGValueNode, zg4]
 refine hK _ _ ?_
 refine zk ?_
 refine zO 10 fun hb4 => ?_
 replace hb4 : lN a0.fentries ≤ 9223372036854775807 := hb4.1
 refine zw (fun m L τ => ∃ (p4 q4 : List GValueEntry) (x2 : Int), m = lN q4 ∧ L = ([(1, .int .i64 a1), (10, .ds true (fM encGValueEntry a0.fentries) (lN a0.fentries) false), (11, .int .i64 (lN a0.fentries : Int)), (12, .int .i64 x2)] : List (Nat × AV)) ∧ τ = ([] : Store) ∧ a0.fentries = p4 ++ q4 ∧ x2 = (lN p4 : Int) ∧ value_Node_Get.l4 a1 q4 x2 = some r) _ ⟨[], a0.fentries, 0, rfl, rfl, rfl, rfl, rfl, h⟩ .s ?_
 rintro m L τ ⟨p4, q4, x2, rfl, rfl, rfl, hE4, hi4, h⟩
 rcases q4 with _ | ⟨y4, q4⟩
 · have hz4 := zN hE4 hi4
   simp only [value_Node_Get.l4] at h
   refine rg tok [1, 10, 11, 12, 13] fun K hK => ?_
   simp only [go_sem, rL, rE, hz4]
   refine hK _ _ ?_
   refine ze fun Z5 hZ5 => ?_
   refine zq rfl ?_
   refine zz ?_
   refine hZ1 _ _ ?_
   refine rg tok [4] fun K hK => ?_
   simp only [go_sem, rL, rE]
   refine hK _ _ ?_
   refine zj ?_
   obtain rfl := Option.some.inj h
   exact retA
 · obtain ⟨hz4, hw4, hx4, hE'4, hi'4⟩ := zK hE4 hi4 hb4
   simp only [value_Node_Get.l4] at h
   refine rg tok [1, 10, 11, 12, 13] fun K hK => ?_
   simp only [go_sem, rL, rE, hz4]
   refine hK _ _ ?_
   refine ze fun Z6 hZ6 => ?_
   refine zt rfl ?_
   refine zi ?_
   refine hZ6 _ _ ?_
   refine ze fun Z7 hZ7 => ?_
   refine zk ?_
   have f8 := E172.idxS hx4
   have f9 := E172.loadS rfl rfl hx4
   refine rg tok [1, 6, 10, 11, 12] fun K hK => ?_
   simp only [go_sem, rL, rD, rE, rA, cellsGValueEntry, ze1, f8, f9]
   refine hK _ _ ?_
   refine rg tok [1, 6, 10, 11, 12, 19] fun K hK => ?_
   simp only [go_sem, rL, rE, rA]
   refine hK _ _ ?_
   refine zA rfl (fun hc10 => ?_) (fun hc10 => ?_)
   · rw [if_pos hc10] at h
     have t11 := eq_true hc10
     refine rc [4] fun K hK => ?_
     obtain ⟨r12, hr12, h⟩ := bind_some h
     refine za tok 2 ?_
     simp only [go_sem, rL, rE, rA, t11]
     refine zh rfl rfl rfl (@id (ACalls Tryd.prog 125 [.ds true (fM encGValueValue y4.fl) (lN y4.fl) false] [.cells 0 [.int .i64 y4.ftag, .ds true (fM encGValueValue y4.fl) (lN y4.fl) false]] (fun r' σ' => r' = .os true 1 1 0 0 (lN r12) false ∧ σ' = [.cells 0 [.int .i64 y4.ftag, .ds true (fM encGValueValue y4.fl) (lN y4.fl) false], .cells 0 (fM encGValueValue r12)])) ((slices_Clone_Value.own y4.fl r12 hr12).ownAt0 (by simp only [push_cast]) (by simp only [push_cast]) _)) ?_
     rintro _ _ ⟨rfl, rfl⟩
     refine za tok 1 ?_
     simp only [go_sem, rL, rE]
     refine zb ?_
     simp only [zd, upd, rE, reduceIte, zl, zn]
     refine hK _ _ ?_
     refine zj ?_
     obtain rfl := Option.some.inj h
     exact retA
   · rw [if_neg hc10] at h
     have t13 := eq_false hc10
     refine zi ?_
     refine hZ7 _ _ ?_
     refine rgE tok [1, 10, 11, 12] fun K hK => ?_
     simp only [go_sem, rL, rE, hw4, t13]
     refine hK _ _ ?_
     exact ⟨_, _, _, nS q4.length, ⟨p4 ++ [y4], q4, x2 + 1, rfl, rfl, rfl, hE'4, hi'4, h⟩, (.t [] false)⟩
theorem value_Node_Get.ev (a0 : GValueNode) (a1 : Int) (r : List GValueValue) (h : value_Node_Get a0 a1 = some r) (σ : Store) : ACalls Tryd.prog 106 [.dp (encGValueNode a0) 0, .int .i64 a1] σ (fun r' σ' => r' = .ds true (fM encGValueValue r) (lN r) false ∧ σ' = σ) :=
 (value_Node_Get.ok a0 a1 r h).c σ
def value_Value_AsNum (a0 : GValueValue) : Int × Bool :=
 (match a0 with | .nil => (0, false) | .num n2 => (n2, true) | .str s2 => (0, false) | .node e2 r2 => (0, false))
theorem value_Value_AsNum.ok (a0 : GValueValue) (r : Int × Bool) (h : value_Value_AsNum a0 = r) : ACalls Tryd.prog 130 [.agg (encGValueValue a0)] [] (fun r' _ => r' = .tup [.int .i64 r.1, .bool r.2]) := by
 refine zm (rs := [.tmp 2, .tmp 3]) tok Tryd.func130 rfl Tryd.ntmps130 rfl Tryd.call130 (by simp) ?_
 refine zo [(0, .agg (encGValueValue a0))] ⟨rfl, trivial⟩ ?_
 unfold value_Value_AsNum at h
 have f1 := zc2 a0
 unfold AV.one at f1
 refine rg tok [1] fun K hK => ?_
 simp only [go_sem, rL, rE, reduceCtorEq, encGValueValue, f1]
 refine hK _ _ ?_
 rcases a0 with _ | n2 | s2 | ⟨e2, r2⟩
 · dsimp only at h
   try simp only [zV4]
   refine rg tok [4, 5] fun K hK => ?_
   simp only [go_sem, rL, rE, rA, zf1, zh1, TypeDesc.isIface]
   refine hK _ _ ?_
   refine rg tok [2, 3] fun K hK => ?_
   simp only [go_sem, rL, rE]
   refine hK _ _ ?_
   refine zj ?_
   obtain rfl := h
   exact retA
 · dsimp only at h
   try simp only [zU4]
   refine rg tok [4, 5] fun K hK => ?_
   simp only [go_sem, rL, rE, rA, zf1, zh1, TypeDesc.isIface]
   refine hK _ _ ?_
   refine rg tok [2, 3] fun K hK => ?_
   simp only [go_sem, rL, rE]
   refine hK _ _ ?_
   refine zj ?_
   obtain rfl := h
   exact retA
 · dsimp only at h
   try simp only [zT4]
   refine rg tok [4, 5] fun K hK => ?_
   simp only [go_sem, rL, rE, rA, zf1, zh1, TypeDesc.isIface]
   refine hK _ _ ?_
   refine rg tok [2, 3] fun K hK => ?_
   simp only [go_sem, rL, rE]
   refine hK _ _ ?_
   refine zj ?_
   obtain rfl := h
   exact retA
 · dsimp only at h
   try simp only [zv3]
   refine rg tok [4, 5] fun K hK => ?_
   simp only [go_sem, rL, rE, rA, zf1, zh1, TypeDesc.isIface]
   refine hK _ _ ?_
   refine rg tok [2, 3] fun K hK => ?_
   simp only [go_sem, rL, rE]
   refine hK _ _ ?_
   refine zj ?_
   obtain rfl := h
   exact retA
theorem value_Value_AsNum.ev (a0 : GValueValue) (r : Int × Bool) (h : value_Value_AsNum a0 = r) (σ : Store) : ACalls Tryd.prog 130 [.agg (encGValueValue a0)] σ (fun r' σ' => r' = .tup [.int .i64 r.1, .bool r.2] ∧ σ' = σ) :=
 (value_Value_AsNum.ok a0 r h).c σ
def value_Value_AsStr (a0 : GValueValue) : List UInt8 × Bool :=
 (match a0 with | .nil => ([], false) | .num n2 => ([], false) | .str s2 => (s2, true) | .node e2 r2 => ([], false))
theorem value_Value_AsStr.ok (a0 : GValueValue) (r : List UInt8 × Bool) (h : value_Value_AsStr a0 = r) : ACalls Tryd.prog 131 [.agg (encGValueValue a0)] [] (fun r' _ => r' = .tup [.str r.1, .bool r.2]) := by
 refine zm (rs := [.tmp 2, .tmp 3]) tok Tryd.func131 rfl Tryd.ntmps131 rfl Tryd.call131 (by simp) ?_
 refine zo [(0, .agg (encGValueValue a0))] ⟨rfl, trivial⟩ ?_
 unfold value_Value_AsStr at h
 have f1 := zc2 a0
 unfold AV.one at f1
 refine rg tok [1] fun K hK => ?_
 simp only [go_sem, rL, rE, reduceCtorEq, encGValueValue, f1]
 refine hK _ _ ?_
 rcases a0 with _ | n2 | s2 | ⟨e2, r2⟩
 · dsimp only at h
   try simp only [zV4]
   refine rg tok [4, 5] fun K hK => ?_
   simp only [go_sem, rL, rE, rA, zf1, zh1, TypeDesc.isIface]
   refine hK _ _ ?_
   refine rg tok [2, 3] fun K hK => ?_
   simp only [go_sem, rL, rE]
   refine hK _ _ ?_
   refine zj ?_
   obtain rfl := h
   exact retA
 · dsimp only at h
   try simp only [zU4]
   refine rg tok [4, 5] fun K hK => ?_
   simp only [go_sem, rL, rE, rA, zf1, zh1, TypeDesc.isIface]
   refine hK _ _ ?_
   refine rg tok [2, 3] fun K hK => ?_
   simp only [go_sem, rL, rE]
   refine hK _ _ ?_
   refine zj ?_
   obtain rfl := h
   exact retA
 · dsimp only at h
   try simp only [zT4]
   refine rg tok [4, 5] fun K hK => ?_
   simp only [go_sem, rL, rE, rA, zf1, zh1, TypeDesc.isIface]
   refine hK _ _ ?_
   refine rg tok [2, 3] fun K hK => ?_
   simp only [go_sem, rL, rE]
   refine hK _ _ ?_
   refine zj ?_
   obtain rfl := h
   exact retA
 · dsimp only at h
   try simp only [zv3]
   refine rg tok [4, 5] fun K hK => ?_
   simp only [go_sem, rL, rE, rA, zf1, zh1, TypeDesc.isIface]
   refine hK _ _ ?_
   refine rg tok [2, 3] fun K hK => ?_
   simp only [go_sem, rL, rE]
   refine hK _ _ ?_
   refine zj ?_
   obtain rfl := h
   exact retA
theorem value_Value_AsStr.ev (a0 : GValueValue) (r : List UInt8 × Bool) (h : value_Value_AsStr a0 = r) (σ : Store) : ACalls Tryd.prog 131 [.agg (encGValueValue a0)] σ (fun r' σ' => r' = .tup [.str r.1, .bool r.2] ∧ σ' = σ) :=
 (value_Value_AsStr.ok a0 r h).c σ
def encode_kept (a0 : GValueValue) : Option GValueValue :=
 bnd (value_Value_AsNum a0) fun r3 => (if r3.2 = true then some (GValueValue.num r3.1) else bnd (value_Value_AsStr a0) fun r6 => (if r6.2 = true then some (GValueValue.str r6.1) else (value_Value_MustNode a0).bind fun r8 => some (GValueValue.node r8.fentries r8.frest)))
theorem encode_kept.ok (a0 : GValueValue) (r : GValueValue) (h : encode_kept a0 = some r) : ACalls Tryd.prog 126 [.agg (encGValueValue a0)] [] (fun r' _ => r' = anyV r) := by
 refine zm (rs := [.tmp 2]) tok Tryd.func126 rfl Tryd.ntmps126 rfl Tryd.call126 (by simp) ?_
 refine zo [(0, .agg (encGValueValue a0))] ⟨rfl, trivial⟩ ?_
 unfold encode_kept at h
 have f1 := zc2 a0
 unfold AV.one at f1
 refine rg tok [1] fun K hK => ?_
 simp only [go_sem, rL, rE, reduceCtorEq, encGValueValue, f1]
 refine hK _ _ ?_
 refine ze fun Z2 hZ2 => ?_
 refine rc [1, 3, 4] fun K hK => ?_
 obtain ⟨r3, hr3, h⟩ := zJ h
 refine za tok 1 ?_
 simp only [go_sem, rL, rD]
 refine zh rfl rfl rfl (value_Value_AsNum.ev a0 r3 hr3 _) ?_
 rintro _ _ ⟨rfl, rfl⟩
 refine za tok 5 ?_
 simp only [go_sem, rL, rE, rA]
 refine zb ?_
 simp only [zd, upd, rE, reduceIte, zl, zn]
 refine hK _ _ ?_
 refine rg tok [1, 3, 12] fun K hK => ?_
 simp only [go_sem, rL, rE]
 refine hK _ _ ?_
 refine zx (b := r3.2) rfl (fun hc4 => ?_) (fun hc4 => ?_)
 · rw [if_pos hc4] at h
   refine rg tok [2] fun K hK => ?_
   simp only [go_sem, rL, rE]
   refine hK _ _ ?_
   refine zj ?_
   obtain rfl := Option.some.inj h
   exact retA
 · rw [if_F hc4] at h
   refine zi ?_
   refine hZ2 _ _ ?_
   refine ze fun Z5 hZ5 => ?_
   refine rc [1, 5, 6] fun K hK => ?_
   obtain ⟨r6, hr6, h⟩ := zJ h
   refine za tok 1 ?_
   simp only [go_sem, rL, rD, rE]
   refine zh rfl rfl rfl (value_Value_AsStr.ev a0 r6 hr6 _) ?_
   rintro _ _ ⟨rfl, rfl⟩
   refine za tok 5 ?_
   simp only [go_sem, rL, rE, rA]
   refine zb ?_
   simp only [zd, upd, rE, reduceIte, zl, zn]
   refine hK _ _ ?_
   refine rg tok [1, 5, 20] fun K hK => ?_
   simp only [go_sem, rL, rE]
   refine hK _ _ ?_
   refine zx (b := r6.2) rfl (fun hc7 => ?_) (fun hc7 => ?_)
   · rw [if_pos hc7] at h
     refine rg tok [2] fun K hK => ?_
     simp only [go_sem, rL, rE]
     refine hK _ _ ?_
     refine zj ?_
     obtain rfl := Option.some.inj h
     exact retA
   · rw [if_F hc7] at h
     refine zi ?_
     refine hZ5 _ _ ?_
     refine rc [2] fun K hK => ?_
     obtain ⟨r8, hr8, h⟩ := bind_some h
     refine za tok 1 ?_
     simp only [go_sem, rL, rD, rE]
     refine zh rfl rfl rfl (value_Value_MustNode.ev a0 r8 hr8 _) ?_
     rintro _ _ ⟨rfl, rfl⟩
     refine za tok 2 ?_
     simp only [go_sem, rL, rE]
     refine zb ?_
     simp only [zd, upd, rE, reduceIte, zl, zn]
     refine hK _ _ ?_
     refine zj ?_
     obtain rfl := Option.some.inj h
     exact retA
theorem encode_kept.ev (a0 : GValueValue) (r : GValueValue) (h : encode_kept a0 = some r) (σ : Store) : ACalls Tryd.prog 126 [.agg (encGValueValue a0)] σ (fun r' σ' => r' = anyV r ∧ σ' = σ) :=
 (encode_kept.ok a0 r h).c σ
def vint_Put.l9 : Nat → List UInt8 → Int → Option (List UInt8)
 | 0, _, _ => none
 | k9 + 1, l3, x5 => (if 128 ≤ x5 then (room (lN l3 + 1) 1).bind fun _u14 => ((vint_Put.l9 k9) (l3 ++ [UInt8.ofNat (Int.toNat (IntKind.u8.wrap ((BitVec.toNat (BitVec.ofInt 8 (IntKind.u8.wrap x5) ||| BitVec.ofInt 8 128) : Nat) : Int)))]) (Int.fdiv x5 (2 ^ (min (Int.toNat 7) 64)))) else (room (lN l3 + 1) 1).bind fun _u18 => some (l3 ++ [UInt8.ofNat (Int.toNat (IntKind.u8.wrap x5))]))
def vint_Put (a0 : List UInt8) (a1 : Int) : Option (List UInt8) :=
 (if 128 ≤ a1 then (room (lN a0 + 1) 1).bind fun _u24 => (vint_Put.l9 rounds (a0 ++ [UInt8.ofNat (Int.toNat (IntKind.u8.wrap ((BitVec.toNat (BitVec.ofInt 8 (IntKind.u8.wrap a1) ||| BitVec.ofInt 8 128) : Nat) : Int)))]) (Int.fdiv a1 (2 ^ (min (Int.toNat 7) 64)))) else (room (lN a0 + 1) 1).bind fun _u28 => some (a0 ++ [UInt8.ofNat (Int.toNat (IntKind.u8.wrap a1))]))
theorem vint_Put.own (a0 : List UInt8) (a1 : Int) (r : List UInt8) (h : vint_Put a0 a1 = some r) : ACalls Tryd.prog 38 [.ds true (fM encB a0) (lN a0) false, .int .u64 a1] [] (fun r' σ' => r' = .os true 1 0 0 0 (lN r) false ∧ σ' = [.cells 0 (fM encB r)]) := by
 refine ACalls.own0 (by simp only [push_cast]) ?_
 refine zp2 (rs := [.tmp 4]) tok Tryd.func38 rfl Tryd.ntmps38 rfl Tryd.call38 (by simp) ?_
 refine zo [(0, .ds true (fM encB a0) (lN a0) false), (1, .int .u64 a1)] ⟨rfl, rfl, trivial⟩ ?_
 unfold vint_Put at h
 refine rg tok [0, 1] fun K hK => ?_
 simp only [go_sem, rL, rE, reduceCtorEq]
 refine hK _ _ ?_
 have f1 := E35.sl_tight a0 .i64 .i64
 refine rg tok [0, 1] fun K hK => ?_
 simp only [go_sem, rL, rE, reduceCtorEq, f1]
 refine hK _ _ ?_
 refine ze fun Z2 hZ2 => ?_
 refine zk ?_
 refine awp_loopS1 (fun m L τ => ∃ (k9 : Nat) (l3 : List UInt8) (x5 : Int) (v4 : Nat), m = 0 + k9 ∧ L = ([(0, .os true 1 0 v4 0 (lN l3) false), (1, .int .u64 x5)] : List (Nat × AV)) ∧ τ = ([.cells v4 (fM encB l3)] : Store) ∧ vint_Put.l9 k9 l3 x5 = some r) (rounds + 1) ?_ ?_
 · refine ze fun Z20 hZ20 => ?_
   refine rg tok [0, 1, 12] fun K hK => ?_
   simp only [go_sem, rL, rE, reduceCtorEq]
   refine hK _ _ ?_
   refine zA rfl (fun hc21 => ?_) (fun hc21 => ?_)
   · rw [if_pos hc21] at h
     have t22 := eq_true hc21
     refine zi ?_
     refine hZ20 _ _ ?_
     refine zk ?_
     have f23 := zb1 (T := tab) (src := 85) (dst := 5) rfl rfl rfl
     obtain ⟨_u24, hu24, h⟩ := bind_some h
     have gu24 := zQ hu24
     have f25 := app_tight E35.len a0 (m := 1) (by decide)
     refine rg tok [0, 1] fun K hK => ?_
     simp only [go_sem, rL, rD, rE, rM, reduceCtorEq, zC, zG, List.range_succ, List.range_zero, true_and, Nat.reduceMod, zL, zM, t22, f23, gu24, f25, zX, List.all_nil, List.all_cons, AV.one, Bool.and_self, nA, lC, lZ, nZ, cA]
     refine hK _ _ ?_
     refine zH (L := [(0, .os true 1 1 0 0 (lN (a0 ++ [UInt8.ofNat (Int.toNat (IntKind.u8.wrap ((BitVec.toNat (BitVec.ofInt 8 (IntKind.u8.wrap a1) ||| BitVec.ofInt 8 128) : Nat) : Int)))])) false), (1, .int .u64 a1)]) (τ := [.cells 0 [.int .u8 (IntKind.u8.wrap ((BitVec.toNat (BitVec.ofInt 8 (IntKind.u8.wrap a1) ||| BitVec.ofInt 8 128) : Nat) : Int))], .cells 0 (fM encB (a0 ++ [UInt8.ofNat (Int.toNat (IntKind.u8.wrap ((BitVec.toNat (BitVec.ofInt 8 (IntKind.u8.wrap a1) ||| BitVec.ofInt 8 128) : Nat) : Int)))]))]) (.same (by first | exact ⟨rfl, rfl, trivial⟩ | rfl | (simp only [go_sem, reduceCtorEq, Fits, lP, lC, lZ, nZ, and_self] <;> rfl)) (by first | exact ⟨rfl, rfl, trivial⟩ | rfl | (simp only [go_sem, encB, fA, fC, fZ, aN, zr4] <;> rfl))) ?_
     refine rgE tok [0, 1] fun K hK => ?_
     simp only [go_sem, rL, rE, reduceCtorEq, zC2, Int.reduceLT]
     refine hK _ _ ?_
     exact ⟨_, _, _, (Nat.lt_succ_of_le (Nat.le_of_eq (nZ rounds))), ⟨rounds, a0 ++ [UInt8.ofNat (Int.toNat (IntKind.u8.wrap ((BitVec.toNat (BitVec.ofInt 8 (IntKind.u8.wrap a1) ||| BitVec.ofInt 8 128) : Nat) : Int)))], Int.fdiv a1 (2 ^ (min (Int.toNat 7) 64)), 0, rfl, rfl, rfl, h⟩, (.t [1] false)⟩
   · rw [if_neg hc21] at h
     have t26 := eq_false hc21
     refine zz ?_
     refine hZ2 _ _ ?_
     have f27 := zb1 (T := tab) (src := 85) (dst := 5) rfl rfl rfl
     obtain ⟨_u28, hu28, h⟩ := bind_some h
     have gu28 := zQ hu28
     have f29 := app_tight E35.len a0 (m := 1) (by decide)
     refine rg tok [4] fun K hK => ?_
     simp only [go_sem, rL, rD, rE, rM, reduceCtorEq, zC, zG, List.range_succ, List.range_zero, true_and, Nat.reduceMod, zL, zM, t26, f27, gu28, f29, zX, List.all_nil, List.all_cons, AV.one, Bool.and_self, nA, lC, lZ, nZ, cA]
     refine hK _ _ ?_
     refine zH (L := [(4, .os true 1 1 0 0 (lN (a0 ++ [UInt8.ofNat (Int.toNat (IntKind.u8.wrap a1))])) false)]) (τ := [.cells 0 [.int .u8 (IntKind.u8.wrap a1)], .cells 0 (fM encB (a0 ++ [UInt8.ofNat (Int.toNat (IntKind.u8.wrap a1))]))]) (.same (by first | exact ⟨rfl, trivial⟩ | rfl | (simp only [go_sem, Fits, lP, lC, lZ, nZ, and_self] <;> rfl)) (by first | exact ⟨rfl, trivial⟩ | rfl | (simp only [go_sem, encB, fA, fC, fZ, aN, zr4] <;> rfl))) ?_
     refine zj ?_
     obtain rfl := Option.some.inj h
     simp only [retQ, zS, zT, zi1, exists_eq_left', go_sem, rA]
     refine ⟨1, 0, by simp, ?_, ?_⟩
     · first | rfl | (simp only [go_sem, rL, rD, rE, rA, rM, rS, reduceIte, reduceCtorEq, push_cast, if_true, dZ, nZ, mC, mN, mP, Bool.or_true, Bool.or_false, Bool.and_true, Bool.and_false, Bool.not_true, Bool.not_false, zy] <;> rfl)
     · first | rfl | (simp only [go_sem, push_cast, mN, zy] <;> rfl)
 · clear h
   rintro m L τ ⟨k9, l3, x5, v4, rfl, rfl, rfl, h⟩
   rcases k9 with _ | k9
   · cases h
   · simp only [vint_Put.l9] at h
     refine ze fun Z10 hZ10 => ?_
     refine rg tok [0, 1, 12] fun K hK => ?_
     simp only [go_sem, rL, rE, reduceCtorEq]
     refine hK _ _ ?_
     refine zA rfl (fun hc11 => ?_) (fun hc11 => ?_)
     · rw [if_pos hc11] at h
       have t12 := eq_true hc11
       refine zi ?_
       refine hZ10 _ _ ?_
       refine zk ?_
       have f13 := zb1 (T := tab) (src := 85) (dst := 5) rfl rfl rfl
       obtain ⟨_u14, hu14, h⟩ := bind_some h
       have gu14 := zQ hu14
       have f15 := (zr E35.len l3)
       refine rg tok [0, 1] fun K hK => ?_
       simp only [go_sem, rL, rD, rE, rM, reduceCtorEq, zC, zG, List.range_succ, List.range_zero, true_and, Nat.reduceMod, zL, zD, zM, t12, f13, gu14, f15, zX, List.all_nil, List.all_cons, AV.one, Bool.and_self, nA, lC, lZ, nZ, cA]
       refine hK _ _ ?_
       refine zH (L := [(0, .os true 1 0 (v4 + 1) 0 (lN (l3 ++ [UInt8.ofNat (Int.toNat (IntKind.u8.wrap ((BitVec.toNat (BitVec.ofInt 8 (IntKind.u8.wrap x5) ||| BitVec.ofInt 8 128) : Nat) : Int)))])) false), (1, .int .u64 x5)]) (τ := [.cells (v4 + 1) (fM encB (l3 ++ [UInt8.ofNat (Int.toNat (IntKind.u8.wrap ((BitVec.toNat (BitVec.ofInt 8 (IntKind.u8.wrap x5) ||| BitVec.ofInt 8 128) : Nat) : Int)))])), .cells 0 [.int .u8 (IntKind.u8.wrap ((BitVec.toNat (BitVec.ofInt 8 (IntKind.u8.wrap x5) ||| BitVec.ofInt 8 128) : Nat) : Int))]]) (.same (by first | exact ⟨rfl, rfl, trivial⟩ | rfl | (simp only [go_sem, reduceCtorEq, Fits, lP, lC, lZ, nZ, and_self] <;> rfl)) (by first | exact ⟨rfl, rfl, trivial⟩ | rfl | (simp only [go_sem, encB, fA, fC, fZ, aN, zr4] <;> rfl))) ?_
       refine rgE tok [0, 1] fun K hK => ?_
       simp only [go_sem, rL, rE, reduceCtorEq, zC2, Int.reduceLT]
       refine hK _ _ ?_
       exact ⟨_, _, _, nS (0 + k9), ⟨k9, l3 ++ [UInt8.ofNat (Int.toNat (IntKind.u8.wrap ((BitVec.toNat (BitVec.ofInt 8 (IntKind.u8.wrap x5) ||| BitVec.ofInt 8 128) : Nat) : Int)))], Int.fdiv x5 (2 ^ (min (Int.toNat 7) 64)), v4 + 1, rfl, rfl, rfl, h⟩, (.t [0] false)⟩
     · rw [if_neg hc11] at h
       have t16 := eq_false hc11
       refine zz ?_
       refine hZ2 _ _ ?_
       have f17 := zb1 (T := tab) (src := 85) (dst := 5) rfl rfl rfl
       obtain ⟨_u18, hu18, h⟩ := bind_some h
       have gu18 := zQ hu18
       have f19 := (zr E35.len l3)
       refine rg tok [4] fun K hK => ?_
       simp only [go_sem, rL, rD, rE, rM, reduceCtorEq, zC, zG, List.range_succ, List.range_zero, true_and, Nat.reduceMod, zL, zD, zM, t16, f17, gu18, f19, zX, List.all_nil, List.all_cons, AV.one, Bool.and_self, nA, lC, lZ, nZ, cA]
       refine hK _ _ ?_
       refine zH (L := [(4, .os true 1 0 (v4 + 1) 0 (lN (l3 ++ [UInt8.ofNat (Int.toNat (IntKind.u8.wrap x5))])) false)]) (τ := [.cells (v4 + 1) (fM encB (l3 ++ [UInt8.ofNat (Int.toNat (IntKind.u8.wrap x5))])), .cells 0 [.int .u8 (IntKind.u8.wrap x5)]]) (.same (by first | exact ⟨rfl, trivial⟩ | rfl | (simp only [go_sem, Fits, lP, lC, lZ, nZ, and_self] <;> rfl)) (by first | exact ⟨rfl, trivial⟩ | rfl | (simp only [go_sem, encB, fA, fC, fZ, aN, zr4] <;> rfl))) ?_
       refine zj ?_
       obtain rfl := Option.some.inj h
       simp only [retQ, zS, zT, zi1, exists_eq_left', go_sem, rA]
       refine ⟨0, v4 + 1, by simp, ?_, ?_⟩
       · first | rfl | (simp only [go_sem, rL, rD, rE, rA, rM, rS, reduceIte, reduceCtorEq, push_cast, if_true, dZ, nZ, mC, mN, mP, Bool.or_true, Bool.or_false, Bool.and_true, Bool.and_false, Bool.not_true, Bool.not_false, zy] <;> rfl)
       · first | rfl | (simp only [go_sem, push_cast, mN, zy] <;> rfl)
theorem vint_Put.ok (a0 : List UInt8) (a1 : Int) (r : List UInt8) (h : vint_Put a0 a1 = some r) : ACalls Tryd.prog 38 [.ds true (fM encB a0) (lN a0) false, .int .u64 a1] [] (fun r' _ => r' = .ds true (fM encB r) (lN r) false) :=
 (vint_Put.own a0 a1 r h).ownData (zr E35.len r) (by simp only [push_cast])
theorem vint_Put.ev (a0 : List UInt8) (a1 : Int) (r : List UInt8) (h : vint_Put a0 a1 = some r) (σ : Store) : ACalls Tryd.prog 38 [.ds true (fM encB a0) (lN a0) false, .int .u64 a1] σ (fun r' σ' => r' = .ds true (fM encB r) (lN r) false ∧ σ' = σ) :=
 (vint_Put.ok a0 a1 r h).c σ
def vint_Zig (a0 : Int) : Int :=
 IntKind.u64.wrap ((BitVec.toNat (BitVec.ofInt 64 (IntKind.u64.wrap ((IntKind.u64.wrap a0) * 2 ^ (min (Int.toNat 1) 64))) ^^^ BitVec.ofInt 64 (IntKind.u64.wrap (Int.fdiv a0 (2 ^ (min (Int.toNat 63) 64))))) : Nat) : Int)
theorem vint_Zig.ok (a0 : Int) (r : Int) (h : vint_Zig a0 = r) : ACalls Tryd.prog 39 [.int .i64 a0] [] (fun r' _ => r' = .int .u64 r) := by
 refine zm (rs := [.tmp 2]) tok Tryd.func39 rfl Tryd.ntmps39 rfl Tryd.call39 (by simp) ?_
 refine zo [(0, .int .i64 a0)] ⟨rfl, trivial⟩ ?_
 unfold vint_Zig at h
 refine rg tok [0] fun K hK => ?_
 simp only [go_sem, rL, reduceCtorEq]
 refine hK _ _ ?_
 have f1 := zb1 (T := tab) (src := 3) (dst := 85) rfl rfl rfl
 have f2 := zb1 (T := tab) (src := 3) (dst := 85) rfl rfl rfl
 refine rg tok [2] fun K hK => ?_
 simp only [go_sem, rL, rE, reduceCtorEq, f1, zC2, Int.reduceLT]
 refine hK _ _ ?_
 refine zj ?_
 obtain rfl := h
 exact retA
theorem vint_Zig.ev (a0 : Int) (r : Int) (h : vint_Zig a0 = r) (σ : Store) : ACalls Tryd.prog 39 [.int .i64 a0] σ (fun r' σ' => r' = .int .u64 r ∧ σ' = σ) :=
 (vint_Zig.ok a0 r h).c σ
def wire_Put (a0 : List UInt8) (a1 : GRaw) : Option (List UInt8 × Bool) :=
 bnd (wire_Check a1) fun r2 => (if (!r2) = true then some (a0, false) else (vint_Put a0 (IntKind.u64.wrap (IntKind.i64.wrap ((IntKind.i64.wrap (2 * a1.fTag)) + a1.fWire)))).bind fun r5 => (if a1.fWire = 0 then bnd (vint_Zig a1.fN) fun r9 => (vint_Put r5 r9).bind fun r10 => some (r10, true) else (vint_Put r5 (IntKind.u64.wrap (lN a1.fB : Int))).bind fun r13 => (room (lN r13 + lN a1.fB) 1).bind fun _u14 => some (r13 ++ a1.fB, true)))
theorem wire_Put.ok (a0 : List UInt8) (a1 : GRaw) (r : List UInt8 × Bool) (h : wire_Put a0 a1 = some r) : ACalls Tryd.prog 19 [.ds true (fM encB a0) (lN a0) false, .agg (encGRaw a1)] [] (fun r' _ => r' = .tup [.ds true (fM encB r.1) (lN r.1) false, .bool r.2]) := by
 refine zm (rs := [.tmp 4, .tmp 5]) tok Tryd.func19 rfl Tryd.ntmps19 rfl Tryd.call19 (by simp) ?_
 refine zo [(0, .ds true (fM encB a0) (lN a0) false), (1, .agg (encGRaw a1))] ⟨rfl, rfl, trivial⟩ ?_
 unfold wire_Put at h
 refine rg tok [0, 3] fun K hK => ?_
 simp only [go_sem, rL, rE, rA, reduceCtorEq, encGRaw]
 refine hK _ _ ?_
 refine ze fun Z1 hZ1 => ?_
 refine rc [0, 3, 9] fun K hK => ?_
 obtain ⟨r2, hr2, h⟩ := zJ h
 refine za tok 1 ?_
 simp only [go_sem, rL, rD, rA, reduceCtorEq]
 refine zh rfl rfl rfl (wire_Check.ev a1 r2 hr2 _) ?_
 rintro _ _ ⟨rfl, rfl⟩
 refine za tok 1 ?_
 simp only [go_sem, rL, rE, reduceCtorEq]
 refine zb ?_
 simp only [zd, upd, rE, reduceIte, zl, zn]
 refine hK _ _ ?_
 refine zx (b := (!r2)) rfl (fun hc3 => ?_) (fun hc3 => ?_)
 · rw [if_pos hc3] at h
   refine rg tok [4, 5] fun K hK => ?_
   simp only [go_sem, rL, rE, reduceCtorEq]
   refine hK _ _ ?_
   refine zj ?_
   obtain rfl := Option.some.inj h
   exact retA
 · rw [if_F hc3] at h
   refine zi ?_
   refine hZ1 _ _ ?_
   refine rc [3, 6] fun K hK => ?_
   have f4 := zb1 (T := tab) (src := 3) (dst := 85) rfl rfl rfl
   obtain ⟨r5, hr5, h⟩ := bind_some h
   refine za tok 8 ?_
   simp only [go_sem, rL, rE, rA, reduceCtorEq, f4]
   refine zh rfl rfl rfl (vint_Put.ev a0 (IntKind.u64.wrap (IntKind.i64.wrap ((IntKind.i64.wrap (2 * a1.fTag)) + a1.fWire))) r5 hr5 _) ?_
   rintro _ _ ⟨rfl, rfl⟩
   refine za tok 1 ?_
   simp only [go_sem, rL, rE, reduceCtorEq]
   refine zb ?_
   simp only [zd, upd, rE, reduceIte, zl, zn]
   refine hK _ _ ?_
   refine ze fun Z6 hZ6 => ?_
   refine rg tok [3, 6, 22] fun K hK => ?_
   simp only [go_sem, rL, rE, rA]
   refine hK _ _ ?_
   refine zA rfl (fun hc7 => ?_) (fun hc7 => ?_)
   · rw [if_pos hc7] at h
     have t8 := eq_true hc7
     refine rc [4, 5] fun K hK => ?_
     obtain ⟨r9, hr9, h⟩ := zJ h
     refine za tok 3 ?_
     simp only [go_sem, rL, rE, rA, t8]
     refine zh rfl rfl rfl (vint_Zig.ev a1.fN r9 hr9 _) ?_
     rintro _ _ ⟨rfl, rfl⟩
     obtain ⟨r10, hr10, h⟩ := bind_some h
     refine zh rfl rfl rfl (vint_Put.ev r5 r9 r10 hr10 _) ?_
     rintro _ _ ⟨rfl, rfl⟩
     refine za tok 2 ?_
     simp only [go_sem, rL, rE]
     refine zb ?_
     simp only [zd, upd, rE, reduceIte, zl, zn]
     refine hK _ _ ?_
     refine zj ?_
     obtain rfl := Option.some.inj h
     exact retA
   · rw [if_neg hc7] at h
     have t11 := eq_false hc7
     refine zi ?_
     refine hZ6 _ _ ?_
     have f12 := zb1 (T := tab) (src := 3) (dst := 85) rfl rfl rfl
     obtain ⟨r13, hr13, h⟩ := bind_some h
     obtain ⟨_u14, hu14, h⟩ := bind_some h
     have gu14 := zQ hu14
     have f15 := (zr E35.len r13)
     refine rd [4, 5] fun K hK => ?_
     refine DW.start (T := tab) [.any, .any, .at [], .at [], .at [], .eff, .any, .own 1 [], .eff, .any, .any] [(1, [])] ?_
     refine DW.runN tok 5 ?_
     simp only [go_sem, rL, rE, rA, t11, f12, lC, lZ, nZ]
     refine DW.callS rfl rfl rfl (@id (ACalls Tryd.prog 38 [.ds true (fM encB r5) (lN r5) false, .int .u64 (IntKind.u64.wrap (lN a1.fB : Int))] [.cells 0 [.int .i64 a1.fTag, .int .i64 a1.fWire, .int .i64 a1.fN, .str a1.fB]] (fun r' σ' => r' = .os true 1 1 0 0 (lN r13) false ∧ σ' = [.cells 0 [.int .i64 a1.fTag, .int .i64 a1.fWire, .int .i64 a1.fN, .str a1.fB], .cells 0 (fM encB r13)])) ((vint_Put.own r5 (IntKind.u64.wrap (lN a1.fB : Int)) r13 hr13).ownAt0 (by simp only [push_cast]) (by simp only [push_cast]) _)) (zL5 (by simp only [go_sem, rD])) ?_
     refine DW.runN tok 5 ?_
     simp only [go_sem, rL, rD, rE, rA, zL, zD, zM, true_and, gu14, f15, srcCells_s, zd3, zl2, lC, lZ, nZ]
     refine DW.fin tok (by decide +kernel) rfl ?_
     simp only [zd, upd, rE, reduceIte, zl, zn]
     refine hK _ _ ?_
     refine zH (L := [(4, .os true 1 1 (0 + 1) 0 (lN (r13 ++ a1.fB)) false), (5, .bool true)]) (τ := [.cells 0 [.int .i64 a1.fTag, .int .i64 a1.fWire, .int .i64 a1.fN, .str a1.fB], .cells (0 + 1) (fM encB (r13 ++ a1.fB))]) .s ?_
     refine zj ?_
     obtain rfl := Option.some.inj h
     exact retA
theorem wire_Put.ev (a0 : List UInt8) (a1 : GRaw) (r : List UInt8 × Bool) (h : wire_Put a0 a1 = some r) (σ : Store) : ACalls Tryd.prog 19 [.ds true (fM encB a0) (lN a0) false, .agg (encGRaw a1)] σ (fun r' σ' => r' = .tup [.ds true (fM encB r.1) (lN r.1) false, .bool r.2] ∧ σ' = σ) :=
 (wire_Put.ok a0 a1 r h).c σ
def wire_PutAll.l11 : List GRaw → Int → List UInt8 → Option (List UInt8 × Int)
 | [], x8, x7 => some (x7, 0)
 | y11 :: q11, x8, x7 => (wire_Put x7 y11).bind fun r17 => (if 4096 < (lN r17.1 : Int) then some (([] : List UInt8), 4) else ((wire_PutAll.l11 q11) (x8 + 1) r17.1))
def wire_PutAll.l4 (a0 : List GRaw) : List GRaw → Int → Option (List UInt8 × Int)
 | [], x2 => (wire_PutAll.l11 a0 0 ([] : List UInt8))
 | y4 :: q4, x2 => bnd (wire_Check y4) fun r25 => (if (!r25) = true then some (([] : List UInt8), 1) else ((wire_PutAll.l4 a0 q4) (x2 + 1)))
def wire_PutAll (a0 : List GRaw) : Option (List UInt8 × Int) :=
 (wire_PutAll.l4 a0 a0 0)
theorem wire_PutAll.ok (a0 : List GRaw) (r : List UInt8 × Int) (h : wire_PutAll a0 = some r) : ACalls Tryd.prog 11 [.ds true (fM encGRaw a0) (lN a0) false] [] (fun r' _ => r' = .tup [.ds true (fM encB r.1) (lN r.1) false, .int .i64 r.2]) := by
 refine zm (rs := [.tmp 2, .tmp 3]) tok Tryd.func11 rfl Tryd.ntmps11 rfl Tryd.call11 (by simp) ?_
 refine zo [(0, .ds true (fM encGRaw a0) (lN a0) false)] ⟨rfl, trivial⟩ ?_
 unfold wire_PutAll at h
 refine rg tok [0] fun K hK => ?_
 simp only [go_sem, rL, reduceCtorEq]
 refine hK _ _ ?_
 refine ze fun Z1 hZ1 => ?_
 refine rg tok [0, 9, 10, 11] fun K hK => ?_
 simp only [go_sem, rL, rE, reduceCtorEq]
 refine hK _ _ ?_
 refine zk ?_
 refine zO 0 fun hb4 => ?_
 replace hb4 : lN a0 ≤ 9223372036854775807 := hb4.1
 refine zw (fun m L τ => ∃ (p4 q4 : List GRaw) (x2 : Int), m = lN q4 ∧ L = ([(0, .ds true (fM encGRaw a0) (lN a0) false), (9, .ds true (fM encGRaw a0) (lN a0) false), (10, .int .i64 (lN a0 : Int)), (11, .int .i64 x2)] : List (Nat × AV)) ∧ τ = ([] : Store) ∧ a0 = p4 ++ q4 ∧ x2 = (lN p4 : Int) ∧ wire_PutAll.l4 a0 q4 x2 = some r) _ ⟨[], a0, 0, rfl, rfl, rfl, rfl, rfl, h⟩ .s ?_
 rintro m L τ ⟨p4, q4, x2, rfl, rfl, rfl, hE4, hi4, h⟩
 rcases q4 with _ | ⟨y4, q4⟩
 · have hz4 := zN hE4 hi4
   simp only [wire_PutAll.l4] at h
   refine rg tok [0, 9, 10, 11, 12] fun K hK => ?_
   simp only [go_sem, rL, rE, reduceCtorEq, hz4]
   refine hK _ _ ?_
   refine ze fun Z5 hZ5 => ?_
   refine zq rfl ?_
   refine zz ?_
   refine hZ1 _ _ ?_
   refine rg tok [0, 6] fun K hK => ?_
   simp only [go_sem, rL, rE, reduceCtorEq]
   refine hK _ _ ?_
   refine ze fun Z6 hZ6 => ?_
   refine rg tok [6, 19, 20, 21] fun K hK => ?_
   simp only [go_sem, rL, rE, reduceCtorEq]
   refine hK _ _ ?_
   refine zk ?_
   refine zO 19 fun hb11 => ?_
   replace hb11 : lN a0 ≤ 9223372036854775807 := hb11.1
   refine zw (fun m L τ => ∃ (p11 q11 : List GRaw) (x8 : Int) (x7 : List UInt8), m = lN q11 ∧ L = ([(6, .ds true (fM encB x7) (lN x7) false), (19, .ds true (fM encGRaw a0) (lN a0) false), (20, .int .i64 (lN a0 : Int)), (21, .int .i64 x8)] : List (Nat × AV)) ∧ τ = ([] : Store) ∧ a0 = p11 ++ q11 ∧ x8 = (lN p11 : Int) ∧ wire_PutAll.l11 q11 x8 x7 = some r) _ ⟨[], a0, 0, ([] : List UInt8), rfl, rfl, rfl, rfl, rfl, h⟩ (.t [] true) ?_
   rintro m L τ ⟨p11, q11, x8, x7, rfl, rfl, rfl, hE11, hi11, h⟩
   rcases q11 with _ | ⟨y11, q11⟩
   · have hz11 := zN hE11 hi11
     simp only [wire_PutAll.l11] at h
     refine rg tok [6, 19, 20, 21, 22] fun K hK => ?_
     simp only [go_sem, rL, rE, hz11]
     refine hK _ _ ?_
     refine ze fun Z12 hZ12 => ?_
     refine zq rfl ?_
     refine zz ?_
     refine hZ6 _ _ ?_
     refine rg tok [2, 3] fun K hK => ?_
     simp only [go_sem, rL, rE]
     refine hK _ _ ?_
     refine zj ?_
     obtain rfl := Option.some.inj h
     exact retA
   · obtain ⟨hz11, hw11, hx11, hE'11, hi'11⟩ := zK hE11 hi11 hb11
     simp only [wire_PutAll.l11] at h
     refine rg tok [6, 19, 20, 21, 22] fun K hK => ?_
     simp only [go_sem, rL, rE, hz11]
     refine hK _ _ ?_
     refine ze fun Z13 hZ13 => ?_
     refine zt rfl ?_
     refine zi ?_
     refine hZ13 _ _ ?_
     refine ze fun Z14 hZ14 => ?_
     refine zk ?_
     have f15 := E22.idxS hx11
     have f16 := E22.loadS rfl rfl hx11
     refine rg tok [6, 8, 19, 20, 21] fun K hK => ?_
     simp only [go_sem, rL, rD, rE, rA, encGRaw, f15, f16]
     refine hK _ _ ?_
     refine rc [6, 19, 20, 21] fun K hK => ?_
     obtain ⟨r17, hr17, h⟩ := bind_some h
     refine za tok 2 ?_
     simp only [go_sem, rL, rD, rE, rA]
     refine zh rfl rfl rfl (wire_Put.ev x7 y11 r17 hr17 _) ?_
     rintro _ _ ⟨rfl, rfl⟩
     refine za tok 4 ?_
     simp only [go_sem, rL, rE, rA]
     refine zb ?_
     simp only [zd, upd, rE, reduceIte, zl, zn]
     refine hK _ _ ?_
     refine rg tok [6, 19, 20, 21, 33] fun K hK => ?_
     simp only [go_sem, rL, rE]
     refine hK _ _ ?_
     refine zA rfl (fun hc18 => ?_) (fun hc18 => ?_)
     · rw [if_pos hc18] at h
       have t19 := eq_true hc18
       refine rg tok [2, 3] fun K hK => ?_
       simp only [go_sem, rL, rE, t19]
       refine hK _ _ ?_
       refine zj ?_
       obtain rfl := Option.some.inj h
       exact retA
     · rw [if_neg hc18] at h
       have t20 := eq_false hc18
       refine zi ?_
       refine hZ14 _ _ ?_
       refine rgE tok [6, 19, 20, 21] fun K hK => ?_
       simp only [go_sem, rL, rE, hw11, t20]
       refine hK _ _ ?_
       exact ⟨_, _, _, nS q11.length, ⟨p11 ++ [y11], q11, x8 + 1, r17.1, rfl, rfl, rfl, hE'11, hi'11, h⟩, (.t [] false)⟩
 · obtain ⟨hz4, hw4, hx4, hE'4, hi'4⟩ := zK hE4 hi4 hb4
   simp only [wire_PutAll.l4] at h
   refine rg tok [0, 9, 10, 11, 12] fun K hK => ?_
   simp only [go_sem, rL, rE, reduceCtorEq, hz4]
   refine hK _ _ ?_
   refine ze fun Z21 hZ21 => ?_
   refine zt rfl ?_
   refine zi ?_
   refine hZ21 _ _ ?_
   refine ze fun Z22 hZ22 => ?_
   refine zk ?_
   have f23 := E22.idxS hx4
   have f24 := E22.loadS rfl rfl hx4
   refine rg tok [0, 5, 9, 10, 11] fun K hK => ?_
   simp only [go_sem, rL, rD, rE, rA, reduceCtorEq, encGRaw, f23, f24]
   refine hK _ _ ?_
   refine rc [0, 9, 10, 11, 17] fun K hK => ?_
   obtain ⟨r25, hr25, h⟩ := zJ h
   refine za tok 1 ?_
   simp only [go_sem, rL, rD, rE, rA, reduceCtorEq]
   refine zh rfl rfl rfl (wire_Check.ev y4 r25 hr25 _) ?_
   rintro _ _ ⟨rfl, rfl⟩
   refine za tok 1 ?_
   simp only [go_sem, rL, rE, reduceCtorEq]
   refine zb ?_
   simp only [zd, upd, rE, reduceIte, zl, zn]
   refine hK _ _ ?_
   refine zx (b := (!r25)) rfl (fun hc26 => ?_) (fun hc26 => ?_)
   · rw [if_pos hc26] at h
     refine rg tok [2, 3] fun K hK => ?_
     simp only [go_sem, rL, rE, reduceCtorEq]
     refine hK _ _ ?_
     refine zj ?_
     obtain rfl := Option.some.inj h
     exact retA
   · rw [if_F hc26] at h
     refine zi ?_
     refine hZ22 _ _ ?_
     refine rgE tok [0, 9, 10, 11] fun K hK => ?_
     simp only [go_sem, rL, rE, reduceCtorEq, hw4]
     refine hK _ _ ?_
     exact ⟨_, _, _, nS q4.length, ⟨p4 ++ [y4], q4, x2 + 1, rfl, rfl, rfl, hE'4, hi'4, h⟩, (.t [] false)⟩
theorem wire_PutAll.ev (a0 : List GRaw) (r : List UInt8 × Int) (h : wire_PutAll a0 = some r) (σ : Store) : ACalls Tryd.prog 11 [.ds true (fM encGRaw a0) (lN a0) false] σ (fun r' σ' => r' = .tup [.ds true (fM encB r.1) (lN r.1) false, .int .i64 r.2] ∧ σ' = σ) :=
 (wire_PutAll.ok a0 r h).c σ
def encode_bytes.body (self_encode_bytes : GValueNode → Option (List UInt8 × Int)) (self_encode_raw : Int → GValueValue → Option (GRaw × Int)) (self_encode_raws : GValueNode → Option (List GRaw × Int)) (a0 : GValueNode) : Option (List UInt8 × Int) :=
 (self_encode_raws a0).bind fun r1 => (if r1.2 = 0 then (wire_PutAll r1.1).bind fun r6 => some (r6.1, r6.2) else some (([] : List UInt8), r1.2))
theorem encode_bytes.step (self_encode_bytes : GValueNode → Option (List UInt8 × Int)) (self_encode_raw : Int → GValueValue → Option (GRaw × Int)) (self_encode_raws : GValueNode → Option (List GRaw × Int)) (ih_encode_bytes : ∀ (a0 : GValueNode) (r : List UInt8 × Int), self_encode_bytes a0 = some r → ACalls Tryd.prog 127 [.dp (encGValueNode a0) 0] [] (fun r' _ => r' = .tup [.ds true (fM encB r.1) (lN r.1) false, .int .i64 r.2])) (ih_encode_raw : ∀ (a0 : Int) (a1 : GValueValue) (r : GRaw × Int), self_encode_raw a0 a1 = some r → ACalls Tryd.prog 107 [.int .i64 a0, .agg (encGValueValue a1)] [] (fun r' _ => r' = .tup [.agg (encGRaw r.1), .int .i64 r.2])) (ih_encode_raws : ∀ (a0 : GValueNode) (r : List GRaw × Int), self_encode_raws a0 = some r → ACalls Tryd.prog 75 [.dp (encGValueNode a0) 0] [] (fun r' _ => r' = .tup [.ds true (fM encGRaw r.1) (lN r.1) false, .int .i64 r.2])) (a0 : GValueNode) (r : List UInt8 × Int) (h : encode_bytes.body self_encode_bytes self_encode_raw self_encode_raws a0 = some r) : ACalls Tryd.prog 127 [.dp (encGValueNode a0) 0] [] (fun r' _ => r' = .tup [.ds true (fM encB r.1) (lN r.1) false, .int .i64 r.2]) := by
 have ev_encode_bytes := fun a0 r h σ => (ih_encode_bytes a0 r h).c σ
 have ev_encode_raw := fun a0 a1 r h σ => (ih_encode_raw a0 a1 r h).c σ
 have ev_encode_raws := fun a0 r h σ => (ih_encode_raws a0 r h).c σ
 refine zm (rs := [.tmp 2, .tmp 3]) tok Tryd.func127 rfl Tryd.ntmps127 rfl Tryd.call127 (by simp) ?_
 refine zo [(0, .dp (encGValueNode a0) 0)] ⟨rfl, trivial⟩ ?_
 unfold encode_bytes.body at h
 refine rg tok [0] fun K hK => ?_
 simp only [go_sem, rL, reduceCtorEq]
 refine hK _ _ ?_
 refine rc [4, 5] fun K hK => ?_
 obtain ⟨r1, hr1, h⟩ := bind_some h
 refine za tok 1 ?_
 simp only [go_sem, rL]
 refine zh rfl rfl rfl (ev_encode_raws a0 r1 hr1 _) ?_
 rintro _ _ ⟨rfl, rfl⟩
 refine za tok 5 ?_
 simp only [go_sem, rL, rE, rA, reduceCtorEq]
 refine zb ?_
 simp only [zd, upd, rE, reduceIte, zl, zn]
 refine hK _ _ ?_
 refine ze fun Z2 hZ2 => ?_
 refine rg tok [4, 5, 12] fun K hK => ?_
 simp only [go_sem, rL, rE]
 refine hK _ _ ?_
 refine zA rfl (fun hc3 => ?_) (fun hc3 => ?_)
 · rw [if_neg hc3] at h
   have t4 := eq_false hc3
   refine rg tok [2, 3] fun K hK => ?_
   simp only [go_sem, rL, rE, t4]
   refine hK _ _ ?_
   refine zj ?_
   obtain rfl := Option.some.inj h
   exact retA
 · rw [if_pos hc3] at h
   have t5 := eq_true hc3
   refine zi ?_
   refine hZ2 _ _ ?_
   refine rc [2, 3] fun K hK => ?_
   obtain ⟨r6, hr6, h⟩ := bind_some h
   refine za tok 1 ?_
   simp only [go_sem, rL, rE, t5]
   refine zh rfl rfl rfl (wire_PutAll.ev r1.1 r6 hr6 _) ?_
   rintro _ _ ⟨rfl, rfl⟩
   refine za tok 4 ?_
   simp only [go_sem, rL, rE, rA]
   refine zb ?_
   simp only [zd, upd, rE, reduceIte, zl, zn]
   refine hK _ _ ?_
   refine zj ?_
   obtain rfl := Option.some.inj h
   exact retA
def encode_raw.j3 (m1_2 : GRaw) : Option (GRaw × Int) :=
 (if 4096 < (lN m1_2.fB : Int) then some ((⟨0, 0, 0, []⟩ : GRaw), 4) else some (m1_2, 0))
def encode_raw.body (self_encode_bytes : GValueNode → Option (List UInt8 × Int)) (self_encode_raw : Int → GValueValue → Option (GRaw × Int)) (self_encode_raws : GValueNode → Option (List GRaw × Int)) (a0 : Int) (a1 : GValueValue) : Option (GRaw × Int) :=
 (encode_kept a1).bind fun r8 => (match r8 with | .nil => (encode_raw.j3 (⟨a0, 1, 0, []⟩ : GRaw)) | .num n9 => some ((⟨a0, 0, n9, []⟩ : GRaw), 0) | .str s9 => (encode_raw.j3 (⟨a0, 1, 0, s9⟩ : GRaw)) | .node e9 r9 => (self_encode_bytes (⟨e9, r9⟩ : GValueNode)).bind fun r10 => (if r10.2 = 0 then (encode_raw.j3 (⟨a0, 1, 0, r10.1⟩ : GRaw)) else some ((⟨0, 0, 0, []⟩ : GRaw), r10.2)))
theorem encode_raw.step (self_encode_bytes : GValueNode → Option (List UInt8 × Int)) (self_encode_raw : Int → GValueValue → Option (GRaw × Int)) (self_encode_raws : GValueNode → Option (List GRaw × Int)) (ih_encode_bytes : ∀ (a0 : GValueNode) (r : List UInt8 × Int), self_encode_bytes a0 = some r → ACalls Tryd.prog 127 [.dp (encGValueNode a0) 0] [] (fun r' _ => r' = .tup [.ds true (fM encB r.1) (lN r.1) false, .int .i64 r.2])) (ih_encode_raw : ∀ (a0 : Int) (a1 : GValueValue) (r : GRaw × Int), self_encode_raw a0 a1 = some r → ACalls Tryd.prog 107 [.int .i64 a0, .agg (encGValueValue a1)] [] (fun r' _ => r' = .tup [.agg (encGRaw r.1), .int .i64 r.2])) (ih_encode_raws : ∀ (a0 : GValueNode) (r : List GRaw × Int), self_encode_raws a0 = some r → ACalls Tryd.prog 75 [.dp (encGValueNode a0) 0] [] (fun r' _ => r' = .tup [.ds true (fM encGRaw r.1) (lN r.1) false, .int .i64 r.2])) (a0 : Int) (a1 : GValueValue) (r : GRaw × Int) (h : encode_raw.body self_encode_bytes self_encode_raw self_encode_raws a0 a1 = some r) : ACalls Tryd.prog 107 [.int .i64 a0, .agg (encGValueValue a1)] [] (fun r' _ => r' = .tup [.agg (encGRaw r.1), .int .i64 r.2]) := by
 have ev_encode_bytes := fun a0 r h σ => (ih_encode_bytes a0 r h).c σ
 have ev_encode_raw := fun a0 a1 r h σ => (ih_encode_raw a0 a1 r h).c σ
 have ev_encode_raws := fun a0 r h σ => (ih_encode_raws a0 r h).c σ
 refine zm (rs := [.cell 4 33, .tmp 5]) tok Tryd.func107 rfl Tryd.ntmps107 rfl Tryd.call107 (by simp) ?_
 refine zo [(0, .int .i64 a0), (1, .agg (encGValueValue a1))] ⟨rfl, rfl, trivial⟩ ?_
 unfold encode_raw.body at h
 have f1 := zc2 a1
 unfold AV.one at f1
 refine rg tok [0, 3, 4] fun K hK => ?_
 simp only [go_sem, rL, rE, reduceCtorEq, encGValueValue, f1]
 refine hK _ _ ?_
 refine rg tok [0, 3, 4, 6] fun K hK => ?_
 simp only [go_sem, rL, rD, rE, rA, reduceCtorEq]
 refine hK _ _ ?_
 refine zk1 (fun L τ => ∃ (m1_2 : GRaw), L = ([(4, .op 0 0 0), (6, .op 1 0 0)] : List (Nat × AV)) ∧ τ = ([.cells 0 [.int .i64 0, .int .i64 0, .int .i64 0, .str []], .cells 0 [.int .i64 m1_2.fTag, .int .i64 m1_2.fWire, .int .i64 m1_2.fN, .str m1_2.fB]] : Store) ∧ encode_raw.j3 m1_2 = some r) ?_ ?_
 · refine rc [0, 4, 6, 15] fun K hK => ?_
   obtain ⟨r8, hr8, h⟩ := bind_some h
   refine za tok 1 ?_
   simp only [go_sem, rL, rD, rE, reduceCtorEq]
   refine zh rfl rfl rfl (encode_kept.ev a1 r8 hr8 _) ?_
   rintro _ _ ⟨rfl, rfl⟩
   refine zb ?_
   simp only [zd, updO, upd, rE, reduceIte, zl, zn]
   refine hK _ _ ?_
   refine zk ?_
   rcases r8 with _ | n9 | s9 | ⟨e9, r9⟩
   · dsimp only at h
     try simp only [anyV_nil]
     refine rg tok [0, 4, 6, 15, 17, 18] fun K hK => ?_
     simp only [go_sem, rL, rE, rA, reduceCtorEq, zf1, zh1, TypeDesc.isIface]
     refine hK _ _ ?_
     refine zq rfl ?_
     refine rg tok [4, 6, 15, 23, 24] fun K hK => ?_
     simp only [go_sem, rL, rE, rA, reduceCtorEq, zf1, zh1, TypeDesc.isIface]
     refine hK _ _ ?_
     refine zq rfl ?_
     refine rg tok [4, 6, 28, 29] fun K hK => ?_
     simp only [go_sem, rL, rE, rA, zf1, zh1, TypeDesc.isIface]
     refine hK _ _ ?_
     refine zq rfl ?_
     refine zi ?_
     exact ⟨_, _, ⟨(⟨a0, 1, 0, []⟩ : GRaw), rfl, rfl, h⟩, (.t [1, 2] false)⟩
   · dsimp only at h
     try simp only [anyV_num]
     refine rg tok [0, 4, 6, 15, 17, 18] fun K hK => ?_
     simp only [go_sem, rL, rE, rA, reduceCtorEq, zf1, zh1, TypeDesc.isIface]
     refine hK _ _ ?_
     refine zt rfl ?_
     refine rg tok [0, 4, 7] fun K hK => ?_
     simp only [go_sem, rL, rE, reduceCtorEq]
     refine hK _ _ ?_
     refine rg tok [4, 5] fun K hK => ?_
     simp only [go_sem, rL, rD, rE, rA, reduceCtorEq]
     refine hK _ _ ?_
     refine zj ?_
     obtain rfl := Option.some.inj h
     exact retA
   · dsimp only at h
     try simp only [anyV_str]
     refine rg tok [0, 4, 6, 15, 17, 18] fun K hK => ?_
     simp only [go_sem, rL, rE, rA, reduceCtorEq, zf1, zh1, TypeDesc.isIface]
     refine hK _ _ ?_
     refine zq rfl ?_
     refine rg tok [4, 6, 15, 23, 24] fun K hK => ?_
     simp only [go_sem, rL, rE, rA, reduceCtorEq, zf1, zh1, TypeDesc.isIface]
     refine hK _ _ ?_
     refine zt rfl ?_
     refine rg tok [4, 6, 8] fun K hK => ?_
     simp only [go_sem, rL, rE]
     refine hK _ _ ?_
     refine rgE tok [4, 6] fun K hK => ?_
     simp only [go_sem, rL, rD, rE, rA]
     refine hK _ _ ?_
     exact ⟨_, _, ⟨(⟨a0, 1, 0, s9⟩ : GRaw), rfl, rfl, h⟩, (.t [1, 2] false)⟩
   · dsimp only at h
     try simp only [anyV_node]
     refine rg tok [0, 4, 6, 15, 17, 18] fun K hK => ?_
     simp only [go_sem, rL, rE, rA, reduceCtorEq, zf1, zh1, TypeDesc.isIface]
     refine hK _ _ ?_
     refine zq rfl ?_
     refine rg tok [4, 6, 15, 23, 24] fun K hK => ?_
     simp only [go_sem, rL, rE, rA, reduceCtorEq, zf1, zh1, TypeDesc.isIface]
     refine hK _ _ ?_
     refine zq rfl ?_
     refine rg tok [4, 6, 28, 29] fun K hK => ?_
     simp only [go_sem, rL, rE, rA, zf1, zh1, TypeDesc.isIface]
     refine hK _ _ ?_
     refine zt rfl ?_
     refine rg tok [4, 6, 9] fun K hK => ?_
     simp only [go_sem, rL, rE]
     refine hK _ _ ?_
     refine rc [4, 6, 10, 11] fun K hK => ?_
     obtain ⟨r10, hr10, h⟩ := bind_some h
     refine za tok 1 ?_
     simp only [go_sem, rL, rE]
     refine zh rfl rfl rfl (ev_encode_bytes (⟨e9, r9⟩ : GValueNode) r10 hr10 _) ?_
     rintro _ _ ⟨rfl, rfl⟩
     refine za tok 5 ?_
     simp only [go_sem, rL, rE, rA]
     refine zb ?_
     simp only [zd, upd, rE, reduceIte, zl, zn]
     refine hK _ _ ?_
     refine ze fun Z11 hZ11 => ?_
     refine rg tok [4, 6, 10, 11, 36] fun K hK => ?_
     simp only [go_sem, rL, rE]
     refine hK _ _ ?_
     refine zA rfl (fun hc12 => ?_) (fun hc12 => ?_)
     · rw [if_neg hc12] at h
       have t13 := eq_false hc12
       refine rg tok [4, 5] fun K hK => ?_
       simp only [go_sem, rL, rD, rE, rA, t13]
       refine hK _ _ ?_
       refine zj ?_
       obtain rfl := Option.some.inj h
       exact retA
     · rw [if_pos hc12] at h
       have t14 := eq_true hc12
       refine zi ?_
       refine hZ11 _ _ ?_
       have f15 := zm4 (T := tab) (src := 35) (dst := 9) rfl rfl rfl rfl rfl rfl r10.1
       refine rgE tok [4, 6] fun K hK => ?_
       simp only [go_sem, rL, rD, rE, rA, t14, f15]
       refine hK _ _ ?_
       exact ⟨_, _, ⟨(⟨a0, 1, 0, r10.1⟩ : GRaw), rfl, rfl, h⟩, (.t [1, 2] false)⟩
 rintro _ _ ⟨m1_2, rfl, rfl, h⟩
 unfold encode_raw.j3 at h
 refine ze fun Z4 hZ4 => ?_
 refine rg tok [4, 6, 45] fun K hK => ?_
 simp only [go_sem, rL, rE, rA]
 refine hK _ _ ?_
 refine zA rfl (fun hc5 => ?_) (fun hc5 => ?_)
 · rw [if_pos hc5] at h
   have t6 := eq_true hc5
   refine rg tok [4, 5] fun K hK => ?_
   simp only [go_sem, rL, rD, rE, rA, t6]
   refine hK _ _ ?_
   refine zj ?_
   obtain rfl := Option.some.inj h
   exact retA
 · rw [if_neg hc5] at h
   have t7 := eq_false hc5
   refine zi ?_
   refine hZ4 _ _ ?_
   refine rg tok [4, 5] fun K hK => ?_
   simp only [go_sem, rL, rD, rE, rA, t7]
   refine hK _ _ ?_
   refine zj ?_
   obtain rfl := Option.some.inj h
   exact retA
def encode_raws.l24 (self_encode_raw : Int → GValueValue → Option (GRaw × Int)) (x6 : Int) (rec10 : Int → List GRaw → Option (List GRaw × Int)) (y10 : Int) : List GValueValue → Int → List GRaw → Option (List GRaw × Int)
 | [], x20, l18 => (rec10 (x6 + 1) l18)
 | y24 :: q24, x20, l18 => (self_encode_raw y10 y24).bind fun r31 => (if r31.2 = 0 then (room (lN l18 + 1) 40).bind fun _u36 => ((encode_raws.l24 self_encode_raw x6 rec10 y10 q24) (x20 + 1) (l18 ++ [r31.1])) else some (([] : List GRaw), r31.2))
def encode_raws.l10 (self_encode_raw : Int → GValueValue → Option (GRaw × Int)) (a0 : GValueNode) : List Int → Int → List GRaw → Option (List GRaw × Int)
 | [], x6, l4 => (wire_Sorted l4).bind fun r12 => some (r12, 0)
 | y10 :: q10, x6, l4 => (value_Node_Get a0 y10).bind fun r17 => (encode_raws.l24 self_encode_raw x6 (encode_raws.l10 self_encode_raw a0 q10) y10 r17 0 l4)
def encode_raws.body (self_encode_bytes : GValueNode → Option (List UInt8 × Int)) (self_encode_raw : Int → GValueValue → Option (GRaw × Int)) (self_encode_raws : GValueNode → Option (List GRaw × Int)) (a0 : GValueNode) : Option (List GRaw × Int) :=
 (value_Node_Rest a0).bind fun r1 => (value_Node_Tags a0).bind fun r3 => (encode_raws.l10 self_encode_raw a0 r3 0 r1)
theorem encode_raws.step (self_encode_bytes : GValueNode → Option (List UInt8 × Int)) (self_encode_raw : Int → GValueValue → Option (GRaw × Int)) (self_encode_raws : GValueNode → Option (List GRaw × Int)) (ih_encode_bytes : ∀ (a0 : GValueNode) (r : List UInt8 × Int), self_encode_bytes a0 = some r → ACalls Tryd.prog 127 [.dp (encGValueNode a0) 0] [] (fun r' _ => r' = .tup [.ds true (fM encB r.1) (lN r.1) false, .int .i64 r.2])) (ih_encode_raw : ∀ (a0 : Int) (a1 : GValueValue) (r : GRaw × Int), self_encode_raw a0 a1 = some r → ACalls Tryd.prog 107 [.int .i64 a0, .agg (encGValueValue a1)] [] (fun r' _ => r' = .tup [.agg (encGRaw r.1), .int .i64 r.2])) (ih_encode_raws : ∀ (a0 : GValueNode) (r : List GRaw × Int), self_encode_raws a0 = some r → ACalls Tryd.prog 75 [.dp (encGValueNode a0) 0] [] (fun r' _ => r' = .tup [.ds true (fM encGRaw r.1) (lN r.1) false, .int .i64 r.2])) (a0 : GValueNode) (r : List GRaw × Int) (h : encode_raws.body self_encode_bytes self_encode_raw self_encode_raws a0 = some r) : ACalls Tryd.prog 75 [.dp (encGValueNode a0) 0] [] (fun r' _ => r' = .tup [.ds true (fM encGRaw r.1) (lN r.1) false, .int .i64 r.2]) := by
 have ev_encode_bytes := fun a0 r h σ => (ih_encode_bytes a0 r h).c σ
 have ev_encode_raw := fun a0 a1 r h σ => (ih_encode_raw a0 a1 r h).c σ
 have ev_encode_raws := fun a0 r h σ => (ih_encode_raws a0 r h).c σ
 refine zm (rs := [.tmp 2, .tmp 3]) tok Tryd.func75 rfl Tryd.ntmps75 rfl Tryd.call75 (by simp) ?_
 refine zo [(0, .dp (encGValueNode a0) 0)] ⟨rfl, trivial⟩ ?_
 unfold encode_raws.body at h
 refine rg tok [0] fun K hK => ?_
 simp only [go_sem, rL, reduceCtorEq]
 refine hK _ _ ?_
 refine rc [0, 4] fun K hK => ?_
 obtain ⟨r1, hr1, h⟩ := bind_some h
 refine za tok 1 ?_
 simp only [go_sem, rL]
 refine zh rfl rfl rfl (@id (ACalls Tryd.prog 104 [.dp (encGValueNode a0) 0] [] (fun r' σ' => r' = .os true 4 0 0 0 (lN r1) false ∧ σ' = [.cells 0 (fM encGRaw r1)])) ((value_Node_Rest.own a0 r1 hr1).ownAt0 (by simp only [push_cast]) (by simp only [push_cast]) _)) ?_
 rintro _ _ ⟨rfl, rfl⟩
 refine za tok 1 ?_
 simp only [go_sem, rL, rE, reduceCtorEq]
 refine zb ?_
 simp only [zd, upd, rE, reduceIte, zl, zn]
 refine hK _ _ ?_
 refine ze fun Z2 hZ2 => ?_
 refine rc [0, 4, 14, 15, 16] fun K hK => ?_
 obtain ⟨r3, hr3, h⟩ := bind_some h
 refine za tok 1 ?_
 simp only [go_sem, rL, reduceCtorEq]
 refine zh rfl rfl rfl (value_Node_Tags.ev a0 r3 hr3 _) ?_
 rintro _ _ ⟨rfl, rfl⟩
 refine za tok 2 ?_
 simp only [go_sem, rL, rE, reduceCtorEq]
 refine zb ?_
 simp only [zd, upd, rE, reduceIte, zl, zn]
 refine hK _ _ ?_
 refine zk ?_
 refine zO 14 fun hb10 => ?_
 replace hb10 : lN r3 ≤ 9223372036854775807 := hb10.1
 refine zw (fun m L τ => ∃ (p10 q10 : List Int) (x6 : Int) (l4 : List GRaw) (v5 : Nat), m = lN q10 ∧ L = ([(0, .dp (encGValueNode a0) 0), (4, .os true 4 0 v5 0 (lN l4) false), (14, .ds true (fM encI r3) (lN r3) false), (15, .int .i64 (lN r3 : Int)), (16, .int .i64 x6)] : List (Nat × AV)) ∧ τ = ([.cells v5 (fM encGRaw l4)] : Store) ∧ r3 = p10 ++ q10 ∧ x6 = (lN p10 : Int) ∧ encode_raws.l10 self_encode_raw a0 q10 x6 l4 = some r) _ ⟨[], r3, 0, r1, 0, rfl, rfl, rfl, rfl, rfl, h⟩ .s ?_
 rintro m L τ ⟨p10, q10, x6, l4, v5, rfl, rfl, rfl, hE10, hi10, h⟩
 rcases q10 with _ | ⟨y10, q10⟩
 · have hz10 := zN hE10 hi10
   simp only [encode_raws.l10] at h
   refine rg tok [0, 4, 14, 15, 16, 17] fun K hK => ?_
   simp only [go_sem, rL, rE, reduceCtorEq, hz10]
   refine hK _ _ ?_
   refine ze fun Z11 hZ11 => ?_
   refine zq rfl ?_
   refine zz ?_
   refine hZ2 _ _ ?_
   refine rc [2, 3] fun K hK => ?_
   obtain ⟨r12, hr12, h⟩ := bind_some h
   refine za tok 1 ?_
   simp only [go_sem, rL, rE, reduceCtorEq]
   refine zb4 (L := [(43, .ds true (fM encGRaw l4) (lN l4) false)]) (τ := []) (.t [] false) ?_
   refine zh rfl rfl rfl (wire_Sorted.ev l4 r12 hr12 _) ?_
   rintro _ _ ⟨rfl, rfl⟩
   refine za tok 2 ?_
   simp only [go_sem, rL, rE]
   refine zb ?_
   simp only [zd, upd, rE, reduceIte, zl, zn]
   refine hK _ _ ?_
   refine zj ?_
   obtain rfl := Option.some.inj h
   exact retA
 · obtain ⟨hz10, hw10, hx10, hE'10, hi'10⟩ := zK hE10 hi10 hb10
   simp only [encode_raws.l10] at h
   refine rg tok [0, 4, 14, 15, 16, 17] fun K hK => ?_
   simp only [go_sem, rL, rE, reduceCtorEq, hz10]
   refine hK _ _ ?_
   refine ze fun Z13 hZ13 => ?_
   refine zt rfl ?_
   refine zi ?_
   refine hZ13 _ _ ?_
   refine ze fun Z14 hZ14 => ?_
   refine zk ?_
   have f15 := E24.idxS hx10
   have f16 := E24.fldS0 (f := 3) rfl rfl hx10
   refine rg tok [0, 4, 6, 14, 15, 16] fun K hK => ?_
   simp only [go_sem, rL, rE, reduceCtorEq, encI, f15, f16]
   refine hK _ _ ?_
   refine rc [0, 4, 6, 14, 15, 16, 22, 23, 24] fun K hK => ?_
   obtain ⟨r17, hr17, h⟩ := bind_some h
   refine za tok 2 ?_
   simp only [go_sem, rL, rE, reduceCtorEq]
   refine zh rfl rfl rfl (value_Node_Get.ev a0 y10 r17 hr17 _) ?_
   rintro _ _ ⟨rfl, rfl⟩
   refine za tok 2 ?_
   simp only [go_sem, rL, rE, reduceCtorEq]
   refine zb ?_
   simp only [zd, upd, rE, reduceIte, zl, zn]
   refine hK _ _ ?_
   refine zk ?_
   refine zO 22 fun hb24 => ?_
   replace hb24 : lN r17 ≤ 9223372036854775807 := hb24.1
   refine zw (fun m L τ => ∃ (p24 q24 : List GValueValue) (x20 : Int) (l18 : List GRaw) (v19 : Nat), m = lN q24 ∧ L = ([(0, .dp (encGValueNode a0) 0), (4, .os true 4 0 v19 0 (lN l18) false), (6, .int .i64 y10), (14, .ds true (fM encI r3) (lN r3) false), (15, .int .i64 (lN r3 : Int)), (16, .int .i64 x6), (22, .ds true (fM encGValueValue r17) (lN r17) false), (23, .int .i64 (lN r17 : Int)), (24, .int .i64 x20)] : List (Nat × AV)) ∧ τ = ([.cells v19 (fM encGRaw l18)] : Store) ∧ r17 = p24 ++ q24 ∧ x20 = (lN p24 : Int) ∧ encode_raws.l24 self_encode_raw x6 (encode_raws.l10 self_encode_raw a0 q10) y10 q24 x20 l18 = some r) _ ⟨[], r17, 0, l4, v5, rfl, rfl, rfl, rfl, rfl, h⟩ .s ?_
   rintro m L τ ⟨p24, q24, x20, l18, v19, rfl, rfl, rfl, hE24, hi24, h⟩
   rcases q24 with _ | ⟨y24, q24⟩
   · have hz24 := zN hE24 hi24
     simp only [encode_raws.l24] at h
     refine rg tok [0, 4, 6, 14, 15, 16, 22, 23, 24, 25] fun K hK => ?_
     simp only [go_sem, rL, rE, reduceCtorEq, hz24]
     refine hK _ _ ?_
     refine ze fun Z25 hZ25 => ?_
     refine zq rfl ?_
     refine zz ?_
     refine hZ14 _ _ ?_
     refine rgE tok [0, 4, 14, 15, 16] fun K hK => ?_
     simp only [go_sem, rL, rE, reduceCtorEq, hw10]
     refine hK _ _ ?_
     exact ⟨_, _, _, nS q10.length, ⟨p10 ++ [y10], q10, x6 + 1, l18, v19, rfl, rfl, rfl, hE'10, hi'10, h⟩, .s⟩
   · obtain ⟨hz24, hw24, hx24, hE'24, hi'24⟩ := zK hE24 hi24 hb24
     simp only [encode_raws.l24] at h
     refine rg tok [0, 4, 6, 14, 15, 16, 22, 23, 24, 25] fun K hK => ?_
     simp only [go_sem, rL, rE, reduceCtorEq, hz24]
     refine hK _ _ ?_
     refine ze fun Z26 hZ26 => ?_
     refine zt rfl ?_
     refine zi ?_
     refine hZ26 _ _ ?_
     refine ze fun Z27 hZ27 => ?_
     refine zk ?_
     have f28 := E155.idxS hx24
     have f29 := E155.loadS rfl rfl hx24
     have f30 := zc2 y24
     unfold AV.one at f30
     refine rg tok [0, 4, 6, 8, 14, 15, 16, 22, 23, 24] fun K hK => ?_
     simp only [go_sem, rL, rD, rE, reduceCtorEq, encGValueValue, f28, f29, f30]
     refine hK _ _ ?_
     refine rc [0, 4, 6, 9, 10, 14, 15, 16, 22, 23, 24] fun K hK => ?_
     obtain ⟨r31, hr31, h⟩ := bind_some h
     refine za tok 2 ?_
     simp only [go_sem, rL, rD, rE, reduceCtorEq]
     refine zh rfl rfl rfl (ev_encode_raw y10 y24 r31 hr31 _) ?_
     rintro _ _ ⟨rfl, rfl⟩
     refine za tok 6 ?_
     simp only [go_sem, rL, rD, rE, rA, reduceCtorEq, encGRaw]
     refine zb ?_
     simp only [zd, upd, rE, reduceIte, zl, zn]
     refine hK _ _ ?_
     refine ze fun Z32 hZ32 => ?_
     refine rg tok [0, 4, 6, 9, 10, 14, 15, 16, 22, 23, 24, 35] fun K hK => ?_
     simp only [go_sem, rL, rE, reduceCtorEq]
     refine hK _ _ ?_
     refine zA rfl (fun hc33 => ?_) (fun hc33 => ?_)
     · rw [if_neg hc33] at h
       have t34 := eq_false hc33
       refine rg tok [2, 3] fun K hK => ?_
       simp only [go_sem, rL, rE, reduceCtorEq, t34]
       refine hK _ _ ?_
       refine zj ?_
       obtain rfl := Option.some.inj h
       exact retA
     · rw [if_pos hc33] at h
       have t35 := eq_true hc33
       refine zi ?_
       refine hZ32 _ _ ?_
       obtain ⟨_u36, hu36, h⟩ := bind_some h
       have gu36 := zQ hu36
       have f37 := (zr E22.len l18)
       refine rgE tok [0, 4, 6, 14, 15, 16, 22, 23, 24] fun K hK => ?_
       simp only [go_sem, rL, rD, rE, rA, rM, reduceCtorEq, zC, zG, List.range_succ, List.range_zero, true_and, Nat.reduceMod, zL, zD, zM, t35, gu36, f37, zX, List.all_nil, List.all_cons, AV.one, Bool.and_self, nA, lC, lZ, nZ, cA]
       refine hK _ _ ?_
       refine hZ27 _ _ ?_
       refine rgE tok [0, 4, 6, 14, 15, 16, 22, 23, 24] fun K hK => ?_
       simp only [go_sem, rL, rE, reduceCtorEq, hw24]
       refine hK _ _ ?_
       exact ⟨_, _, _, nS q24.length, ⟨p24 ++ [y24], q24, x20 + 1, l18 ++ [r31.1], v19 + 1, rfl, rfl, rfl, hE'24, hi'24, h⟩, (.t [0] false)⟩
mutual
def encode_bytes : Nat → GValueNode → Option (List UInt8 × Int)
 | 0, _ => none
 | k + 1, a0 => encode_bytes.body (encode_bytes k) (encode_raw k) (encode_raws k) a0
def encode_raw : Nat → Int → GValueValue → Option (GRaw × Int)
 | 0, _, _ => none
 | k + 1, a0, a1 => encode_raw.body (encode_bytes k) (encode_raw k) (encode_raws k) a0 a1
def encode_raws : Nat → GValueNode → Option (List GRaw × Int)
 | 0, _ => none
 | k + 1, a0 => encode_raws.body (encode_bytes k) (encode_raw k) (encode_raws k) a0
end
theorem encode_bytes.all (k : Nat) : (∀ (a0 : GValueNode) (r : List UInt8 × Int), encode_bytes k a0 = some r → ACalls Tryd.prog 127 [.dp (encGValueNode a0) 0] [] (fun r' _ => r' = .tup [.ds true (fM encB r.1) (lN r.1) false, .int .i64 r.2])) ∧ (∀ (a0 : Int) (a1 : GValueValue) (r : GRaw × Int), encode_raw k a0 a1 = some r → ACalls Tryd.prog 107 [.int .i64 a0, .agg (encGValueValue a1)] [] (fun r' _ => r' = .tup [.agg (encGRaw r.1), .int .i64 r.2])) ∧ (∀ (a0 : GValueNode) (r : List GRaw × Int), encode_raws k a0 = some r → ACalls Tryd.prog 75 [.dp (encGValueNode a0) 0] [] (fun r' _ => r' = .tup [.ds true (fM encGRaw r.1) (lN r.1) false, .int .i64 r.2])) := by
 induction k with
 | zero => exact ⟨(fun a0 r h => by simp only [encode_bytes] at h; cases h), (fun a0 a1 r h => by simp only [encode_raw] at h; cases h), (fun a0 r h => by simp only [encode_raws] at h; cases h)⟩
 | succ k ih => exact ⟨(fun a0 r h => encode_bytes.step _ _ _ ih.1 ih.2.1 ih.2.2 a0 r (by simpa only [encode_bytes] using h)), (fun a0 a1 r h => encode_raw.step _ _ _ ih.1 ih.2.1 ih.2.2 a0 a1 r (by simpa only [encode_raw] using h)), (fun a0 r h => encode_raws.step _ _ _ ih.1 ih.2.1 ih.2.2 a0 r (by simpa only [encode_raws] using h))⟩
theorem encode_raws.ev (k : Nat) (a0 : GValueNode) (r : List GRaw × Int) (h : encode_raws k a0 = some r) (σ : Store) : ACalls Tryd.prog 75 [.dp (encGValueNode a0) 0] σ (fun r' σ' => r' = .tup [.ds true (fM encGRaw r.1) (lN r.1) false, .int .i64 r.2] ∧ σ' = σ) :=
 ((encode_bytes.all k).2.2 a0 r h).c σ
def encode_Raws (a0 : GTree) : Option (List GRaw × Int) :=
 (value_Of a0).bind fun r1 => (if ((!r1.2) || (!(decide (a0.fKind = 3)))) = true then some (([] : List GRaw), 1) else (value_Value_MustNode r1.1).bind fun r5 => (encode_raws rounds r5).bind fun r6 => some (r6.1, r6.2))
theorem encode_Raws.ok (a0 : GTree) (r : List GRaw × Int) (h : encode_Raws a0 = some r) : ACalls Tryd.prog 50 [.agg (cellsGTree a0)] [] (fun r' _ => r' = .tup [.ds true (fM encGRaw r.1) (lN r.1) false, .int .i64 r.2]) := by
 refine zm (rs := [.tmp 2, .tmp 3]) tok Tryd.func50 rfl Tryd.ntmps50 rfl Tryd.call50 (by simp) ?_
 refine zo [(0, .agg (cellsGTree a0))] ⟨rfl, trivial⟩ ?_
 unfold encode_Raws at h
 refine rg tok [1] fun K hK => ?_
 simp only [go_sem, rL, rE, rA, reduceCtorEq, cellsGTree]
 refine hK _ _ ?_
 refine rc [1, 4, 5] fun K hK => ?_
 obtain ⟨r1, hr1, h⟩ := bind_some h
 refine za tok 1 ?_
 simp only [go_sem, rL, rD, rA]
 refine zh rfl rfl rfl (value_Of.ev a0 r1 hr1 _) ?_
 rintro _ _ ⟨rfl, rfl⟩
 have f2 := zc2 r1.1
 unfold AV.one at f2
 refine za tok 6 ?_
 simp only [go_sem, rL, rD, rE, rA, encGValueValue, f2]
 refine zb ?_
 simp only [zd, upd, rE, reduceIte, zl, zn]
 refine hK _ _ ?_
 refine ze fun Z3 hZ3 => ?_
 refine rc [4, 17] fun K hK => ?_
 refine za tok 3 ?_
 simp only [go_sem, rL, rE]
 refine zp 4 (fun L τ => L = ([(4, .op 1 0 0), (17, .bool ((!r1.2) || (!(decide (a0.fKind = 3)))))] : List (Nat × AV)) ∧ τ = ([.cells 0 [.int .i64 a0.fKind, .int .i64 a0.fN, .str a0.fS, .ds true (fM encGEntry a0.fEntries) (lN a0.fEntries) false, .ds true (fM encGRaw a0.fRest) (lN a0.fRest) false], .cells 0 [ifcV r1.1]] : Store)) ?_ ?_
 · refine zI (b := (!r1.2)) 13 rfl (fun hg13 => ?_) (fun hg13 => ?_)
   · refine za tok 4 ?_
     simp only [go_sem, rL, rE]
     refine zb ⟨rfl, _, _, ⟨rfl, rfl⟩, .b hg13⟩
   · refine za tok 4 ?_
     simp only [go_sem, rL, rE, rA]
     refine zb ⟨rfl, _, _, ⟨rfl, rfl⟩, .b hg13⟩
 rintro _ _ ⟨rfl, rfl⟩
 refine zb ?_
 simp only [zd, rE, reduceIte, zl, zn]
 refine hK _ _ ?_
 refine zx (b := ((!r1.2) || (!(decide (a0.fKind = 3))))) rfl (fun hc4 => ?_) (fun hc4 => ?_)
 · rw [if_pos hc4] at h
   refine rg tok [2, 3] fun K hK => ?_
   simp only [go_sem, rL, rE]
   refine hK _ _ ?_
   refine zj ?_
   obtain rfl := Option.some.inj h
   exact retA
 · rw [if_F hc4] at h
   refine zi ?_
   refine hZ3 _ _ ?_
   refine rc [2, 3] fun K hK => ?_
   obtain ⟨r5, hr5, h⟩ := bind_some h
   refine za tok 1 ?_
   simp only [go_sem, rL, rD, rE]
   refine zh rfl rfl rfl (value_Value_MustNode.ev r1.1 r5 hr5 _) ?_
   rintro _ _ ⟨rfl, rfl⟩
   obtain ⟨r6, hr6, h⟩ := bind_some h
   refine zh rfl rfl rfl (encode_raws.ev rounds r5 r6 hr6 _) ?_
   rintro _ _ ⟨rfl, rfl⟩
   refine za tok 4 ?_
   simp only [go_sem, rL, rE, rA]
   refine zb ?_
   simp only [zd, upd, rE, reduceIte, zl, zn]
   refine hK _ _ ?_
   refine zj ?_
   obtain rfl := Option.some.inj h
   exact retA
theorem encode_Raws.ev (a0 : GTree) (r : List GRaw × Int) (h : encode_Raws a0 = some r) (σ : Store) : ACalls Tryd.prog 50 [.agg (cellsGTree a0)] σ (fun r' σ' => r' = .tup [.ds true (fM encGRaw r.1) (lN r.1) false, .int .i64 r.2] ∧ σ' = σ) :=
 (encode_Raws.ok a0 r h).c σ
def encode_Encode (a0 : GTree) : Option (List UInt8 × Int) :=
 (encode_Raws a0).bind fun r1 => (if r1.2 = 0 then (wire_PutAll r1.1).bind fun r6 => some (r6.1, r6.2) else some (([] : List UInt8), r1.2))
theorem encode_Encode.ok (a0 : GTree) (r : List UInt8 × Int) (h : encode_Encode a0 = some r) : ACalls Tryd.prog 31 [.agg (cellsGTree a0)] [] (fun r' _ => r' = .tup [.ds true (fM encB r.1) (lN r.1) false, .int .i64 r.2]) := by
 refine zm (rs := [.tmp 2, .tmp 3]) tok Tryd.func31 rfl Tryd.ntmps31 rfl Tryd.call31 (by simp) ?_
 refine zo [(0, .agg (cellsGTree a0))] ⟨rfl, trivial⟩ ?_
 unfold encode_Encode at h
 refine rg tok [1] fun K hK => ?_
 simp only [go_sem, rL, rE, rA, reduceCtorEq, cellsGTree]
 refine hK _ _ ?_
 refine rc [4, 5] fun K hK => ?_
 obtain ⟨r1, hr1, h⟩ := bind_some h
 refine za tok 1 ?_
 simp only [go_sem, rL, rD, rA]
 refine zh rfl rfl rfl (encode_Raws.ev a0 r1 hr1 _) ?_
 rintro _ _ ⟨rfl, rfl⟩
 refine za tok 5 ?_
 simp only [go_sem, rL, rE, rA]
 refine zb ?_
 simp only [zd, upd, rE, reduceIte, zl, zn]
 refine hK _ _ ?_
 refine ze fun Z2 hZ2 => ?_
 refine rg tok [4, 5, 12] fun K hK => ?_
 simp only [go_sem, rL, rE]
 refine hK _ _ ?_
 refine zA rfl (fun hc3 => ?_) (fun hc3 => ?_)
 · rw [if_neg hc3] at h
   have t4 := eq_false hc3
   refine rg tok [2, 3] fun K hK => ?_
   simp only [go_sem, rL, rE, t4]
   refine hK _ _ ?_
   refine zj ?_
   obtain rfl := Option.some.inj h
   exact retA
 · rw [if_pos hc3] at h
   have t5 := eq_true hc3
   refine zi ?_
   refine hZ2 _ _ ?_
   refine rc [2, 3] fun K hK => ?_
   obtain ⟨r6, hr6, h⟩ := bind_some h
   refine za tok 1 ?_
   simp only [go_sem, rL, rE, t5]
   refine zh rfl rfl rfl (wire_PutAll.ev r1.1 r6 hr6 _) ?_
   rintro _ _ ⟨rfl, rfl⟩
   refine za tok 4 ?_
   simp only [go_sem, rL, rE, rA]
   refine zb ?_
   simp only [zd, upd, rE, reduceIte, zl, zn]
   refine hK _ _ ?_
   refine zj ?_
   obtain rfl := Option.some.inj h
   exact retA
theorem encode_Encode.ev (a0 : GTree) (r : List UInt8 × Int) (h : encode_Encode a0 = some r) (σ : Store) : ACalls Tryd.prog 31 [.agg (cellsGTree a0)] σ (fun r' σ' => r' = .tup [.ds true (fM encB r.1) (lN r.1) false, .int .i64 r.2] ∧ σ' = σ) :=
 (encode_Encode.ok a0 r h).c σ
def ref09_depth.l18 (self_ref09_depth : GTree → Int → Option Int) (a1 : Int) (x7 : Int) (rec10 : Int → Int → Option Int) : List GTree → Int → Int → Option Int
 | [], x15, x14 => (rec10 (x7 + 1) x14)
 | y18 :: q18, x15, x14 => (self_ref09_depth y18 (IntKind.i64.wrap (a1 + 1))).bind fun r30 => ((ref09_depth.l18 self_ref09_depth a1 x7 rec10 q18) (x15 + 1) (if x14 < r30 then r30 else x14))
def ref09_depth.l10 (self_ref09_depth : GTree → Int → Option Int) (a1 : Int) : List GEntry → Int → Int → Option Int
 | [], x7, x6 => some (if 101 < IntKind.i64.wrap (x6 + 1) then 101 else IntKind.i64.wrap (x6 + 1))
 | y10 :: q10, x7, x6 => (ref09_depth.l18 self_ref09_depth a1 x7 (ref09_depth.l10 self_ref09_depth a1 q10) y10.fTrees 0 x6)
def ref09_depth.body (self_ref09_depth : GTree → Int → Option Int) (a0 : GTree) (a1 : Int) : Option Int :=
 (if ((!(decide (a0.fKind = 3))) || (decide (100 < a1))) = true then some 0 else (ref09_depth.l10 self_ref09_depth a1 a0.fEntries 0 0))
theorem ref09_depth.step (self_ref09_depth : GTree → Int → Option Int) (ih_ref09_depth : ∀ (a0 : GTree) (a1 : Int) (r : Int), self_ref09_depth a0 a1 = some r → ACalls Tryd.prog 40 [.agg (cellsGTree a0), .int .i64 a1] [] (fun r' _ => r' = .int .i64 r)) (a0 : GTree) (a1 : Int) (r : Int) (h : ref09_depth.body self_ref09_depth a0 a1 = some r) : ACalls Tryd.prog 40 [.agg (cellsGTree a0), .int .i64 a1] [] (fun r' _ => r' = .int .i64 r) := by
 have ev_ref09_depth := fun a0 a1 r h σ => (ih_ref09_depth a0 a1 r h).c σ
 refine zm (rs := [.tmp 4]) tok Tryd.func40 rfl Tryd.ntmps40 rfl Tryd.call40 (by simp) ?_
 refine zo [(0, .agg (cellsGTree a0)), (1, .int .i64 a1)] ⟨rfl, rfl, trivial⟩ ?_
 unfold ref09_depth.body at h
 refine rg tok [1, 2] fun K hK => ?_
 simp only [go_sem, rL, rE, rA, reduceCtorEq, cellsGTree]
 refine hK _ _ ?_
 refine ze fun Z1 hZ1 => ?_
 refine rc [1, 2, 14] fun K hK => ?_
 refine za tok 4 ?_
 simp only [go_sem, rL, rE, rA]
 refine zp 3 (fun L τ => L = ([(1, .int .i64 a1), (2, .op 0 0 0), (14, .bool ((!(decide (a0.fKind = 3))) || (decide (100 < a1))))] : List (Nat × AV)) ∧ τ = ([.cells 0 [.int .i64 a0.fKind, .int .i64 a0.fN, .str a0.fS, .ds true (fM encGEntry a0.fEntries) (lN a0.fEntries) false, .ds true (fM encGRaw a0.fRest) (lN a0.fRest) false]] : Store)) ?_ ?_
 · refine za1 11 rfl (fun hg11 => ?_) (fun hg11 => ?_)
   · have t2 := eq_false hg11
     refine za tok 3 ?_
     simp only [go_sem, rL, rE]
     refine zb ⟨rfl, _, _, ⟨rfl, rfl⟩, .p t2⟩
   · have t3 := eq_true hg11
     refine za tok 3 ?_
     simp only [go_sem, rL, rE]
     refine zb ⟨rfl, _, _, ⟨rfl, rfl⟩, .p t3⟩
 rintro _ _ ⟨rfl, rfl⟩
 refine zb ?_
 simp only [zd, rE, reduceIte, zl, zn]
 refine hK _ _ ?_
 refine zx (b := ((!(decide (a0.fKind = 3))) || (decide (100 < a1)))) rfl (fun hc4 => ?_) (fun hc4 => ?_)
 · rw [if_pos hc4] at h
   refine rg tok [4] fun K hK => ?_
   simp only [go_sem, rL, rE]
   refine hK _ _ ?_
   refine zj ?_
   obtain rfl := Option.some.inj h
   exact retA
 · rw [if_F hc4] at h
   refine zi ?_
   refine hZ1 _ _ ?_
   refine rg tok [1, 2, 5] fun K hK => ?_
   simp only [go_sem, rL, rE]
   refine hK _ _ ?_
   refine ze fun Z5 hZ5 => ?_
   refine rg tok [1, 2, 5, 6] fun K hK => ?_
   simp only [go_sem, rL, rE]
   refine hK _ _ ?_
   refine zk ?_
   refine zK1 0 rfl fun hb10 => ?_
   replace hb10 : lN a0.fEntries ≤ 9223372036854775807 := hb10.2.2.2.1.1
   refine zw (fun m L τ => ∃ (p10 q10 : List GEntry) (x7 : Int) (x6 : Int), m = lN q10 ∧ L = ([(1, .int .i64 a1), (2, .op 0 0 0), (5, .int .i64 x6), (6, .int .i64 x7)] : List (Nat × AV)) ∧ τ = ([.cells 0 [.int .i64 a0.fKind, .int .i64 a0.fN, .str a0.fS, .ds true (fM encGEntry a0.fEntries) (lN a0.fEntries) false, .ds true (fM encGRaw a0.fRest) (lN a0.fRest) false]] : Store) ∧ a0.fEntries = p10 ++ q10 ∧ x7 = (lN p10 : Int) ∧ ref09_depth.l10 self_ref09_depth a1 q10 x7 x6 = some r) _ ⟨[], a0.fEntries, 0, 0, rfl, rfl, rfl, rfl, rfl, h⟩ .s ?_
   rintro m L τ ⟨p10, q10, x7, x6, rfl, rfl, rfl, hE10, hi10, h⟩
   rcases q10 with _ | ⟨y10, q10⟩
   · have hz10 := zN hE10 hi10
     simp only [ref09_depth.l10] at h
     refine ze fun Z11 hZ11 => ?_
     refine rg tok [1, 2, 5, 6, 19] fun K hK => ?_
     simp only [go_sem, rL, rE, rA, hz10]
     refine hK _ _ ?_
     refine zq rfl ?_
     refine zz ?_
     refine hZ5 _ _ ?_
     refine rg tok [4] fun K hK => ?_
     simp only [go_sem, rL, rE, zh4, foldO, zB5]
     refine hK _ _ ?_
     refine zj ?_
     obtain rfl := Option.some.inj h
     exact retA
   · obtain ⟨hz10, hw10, hx10, hE'10, hi'10⟩ := zK hE10 hi10 hb10
     simp only [ref09_depth.l10] at h
     refine ze fun Z12 hZ12 => ?_
     refine rg tok [1, 2, 5, 6, 19] fun K hK => ?_
     simp only [go_sem, rL, rE, rA, hz10]
     refine hK _ _ ?_
     refine zt rfl ?_
     refine zi ?_
     refine hZ12 _ _ ?_
     refine ze fun Z13 hZ13 => ?_
     refine zk ?_
     refine rg tok [1, 2, 5, 6, 7] fun K hK => ?_
     simp only [go_sem, rL, rE]
     refine hK _ _ ?_
     refine zk ?_
     refine zK1 0 rfl fun hb18 => ?_
     replace hb18 := zF5 hb18.2.2.2.1.2 hx10
     rw [zB] at hb18
     replace hb18 : lN y10.fTrees ≤ 9223372036854775807 := hb18.2.1.1
     refine zw (fun m L τ => ∃ (p18 q18 : List GTree) (x15 : Int) (x14 : Int), m = lN q18 ∧ L = ([(1, .int .i64 a1), (2, .op 0 0 0), (5, .int .i64 x14), (6, .int .i64 x7), (7, .int .i64 x15)] : List (Nat × AV)) ∧ τ = ([.cells 0 [.int .i64 a0.fKind, .int .i64 a0.fN, .str a0.fS, .ds true (fM encGEntry a0.fEntries) (lN a0.fEntries) false, .ds true (fM encGRaw a0.fRest) (lN a0.fRest) false]] : Store) ∧ y10.fTrees = p18 ++ q18 ∧ x15 = (lN p18 : Int) ∧ ref09_depth.l18 self_ref09_depth a1 x7 (ref09_depth.l10 self_ref09_depth a1 q10) q18 x15 x14 = some r) _ ⟨[], y10.fTrees, 0, x6, rfl, rfl, rfl, rfl, rfl, h⟩ .s ?_
     rintro m L τ ⟨p18, q18, x15, x14, rfl, rfl, rfl, hE18, hi18, h⟩
     rcases q18 with _ | ⟨y18, q18⟩
     · have hz18 := zN hE18 hi18
       simp only [ref09_depth.l18] at h
       refine ze fun Z19 hZ19 => ?_
       have f20 := E40.idxS hx10
       have f21 := E40.fldS (f := 59) rfl rfl hx10 (o := 1) (by decide)
       refine rg tok [1, 2, 5, 6, 7, 30] fun K hK => ?_
       simp only [go_sem, rL, rE, rA, cellsGEntry, zB, hz18, f20, f21]
       refine hK _ _ ?_
       refine zq rfl ?_
       refine zz ?_
       refine hZ13 _ _ ?_
       refine rgE tok [1, 2, 5, 6] fun K hK => ?_
       simp only [go_sem, rL, rE, hw10]
       refine hK _ _ ?_
       exact ⟨_, _, _, nS q10.length, ⟨p10 ++ [y10], q10, x7 + 1, x14, rfl, rfl, rfl, hE'10, hi'10, h⟩, .s⟩
     · obtain ⟨hz18, hw18, hx18, hE'18, hi'18⟩ := zK hE18 hi18 hb18
       simp only [ref09_depth.l18] at h
       refine ze fun Z22 hZ22 => ?_
       have f23 := E40.idxS hx10
       have f24 := E40.fldS (f := 59) rfl rfl hx10 (o := 1) (by decide)
       refine rg tok [1, 2, 5, 6, 7, 30] fun K hK => ?_
       simp only [go_sem, rL, rE, rA, cellsGEntry, zB, hz18, f23, f24]
       refine hK _ _ ?_
       refine zt rfl ?_
       refine zi ?_
       refine hZ22 _ _ ?_
       refine ze fun Z25 hZ25 => ?_
       refine zk ?_
       refine rcE [1, 2, 5, 6, 7] fun K hK => ?_
       have f26 := E40.idxS hx10
       have f27 := E40.fldS (f := 59) rfl rfl hx10 (o := 1) (by decide)
       have f28 := E59.idxS hx18
       have f29 := E59.loadS rfl rfl hx18
       obtain ⟨r30, hr30, h⟩ := bind_some h
       refine za tok 10 ?_
       simp only [go_sem, rL, rE, rA, cellsGEntry, cellsGTree, zB, zR, f26, f27, f28, f29]
       refine za tok 2 ?_
       simp only [go_sem, rL, rE]
       refine zh rfl rfl rfl (ev_ref09_depth y18 (IntKind.i64.wrap (a1 + 1)) r30 hr30 _) ?_
       rintro _ _ ⟨rfl, rfl⟩
       refine za tok 2 ?_
       simp only [go_sem, rL, rE, zh4, foldO, zC5]
       refine zb ?_
       simp only [zd, upd, rE, reduceIte, zl, zn]
       refine hK _ _ ?_
       refine hZ25 _ _ ?_
       refine rgE tok [1, 2, 5, 6, 7] fun K hK => ?_
       simp only [go_sem, rL, rE, hw18]
       refine hK _ _ ?_
       exact ⟨_, _, _, nS q18.length, ⟨p18 ++ [y18], q18, x15 + 1, (if x14 < r30 then r30 else x14), rfl, rfl, rfl, hE'18, hi'18, h⟩, .s⟩
def ref09_depth : Nat → GTree → Int → Option Int
 | 0, _, _ => none
 | k + 1, a0, a1 => ref09_depth.body (ref09_depth k) a0 a1
theorem ref09_depth.all (k : Nat) : (∀ (a0 : GTree) (a1 : Int) (r : Int), ref09_depth k a0 a1 = some r → ACalls Tryd.prog 40 [.agg (cellsGTree a0), .int .i64 a1] [] (fun r' _ => r' = .int .i64 r)) := by
 induction k with
 | zero => exact (fun a0 a1 r h => by simp only [ref09_depth] at h; cases h)
 | succ k ih => exact (fun a0 a1 r h => ref09_depth.step _ ih a0 a1 r (by simpa only [ref09_depth] using h))
theorem ref09_depth.ev (k : Nat) (a0 : GTree) (a1 : Int) (r : Int) (h : ref09_depth k a0 a1 = some r) (σ : Store) : ACalls Tryd.prog 40 [.agg (cellsGTree a0), .int .i64 a1] σ (fun r' σ' => r' = .int .i64 r ∧ σ' = σ) :=
 ((ref09_depth.all k) a0 a1 r h).c σ
def ref09_Depth (a0 : GTree) : Option Int :=
 (ref09_depth rounds a0 0).bind fun r1 => some r1
theorem ref09_Depth.ok (a0 : GTree) (r : Int) (h : ref09_Depth a0 = some r) : ACalls Tryd.prog 21 [.agg (cellsGTree a0)] [] (fun r' _ => r' = .int .i64 r) := by
 refine zm (rs := [.tmp 2]) tok Tryd.func21 rfl Tryd.ntmps21 rfl Tryd.call21 (by simp) ?_
 refine zo [(0, .agg (cellsGTree a0))] ⟨rfl, trivial⟩ ?_
 unfold ref09_Depth at h
 refine rg tok [1] fun K hK => ?_
 simp only [go_sem, rL, rE, rA, reduceCtorEq, cellsGTree]
 refine hK _ _ ?_
 refine rc [2] fun K hK => ?_
 obtain ⟨r1, hr1, h⟩ := bind_some h
 refine za tok 1 ?_
 simp only [go_sem, rL, rD, rA]
 refine zh rfl rfl rfl (ref09_depth.ev rounds a0 0 r1 hr1 _) ?_
 rintro _ _ ⟨rfl, rfl⟩
 refine za tok 1 ?_
 simp only [go_sem, rL, rE]
 refine zb ?_
 simp only [zd, upd, rE, reduceIte, zl, zn]
 refine hK _ _ ?_
 refine zj ?_
 obtain rfl := Option.some.inj h
 exact retA
theorem ref09_Depth.ev (a0 : GTree) (r : Int) (h : ref09_Depth a0 = some r) (σ : Store) : ACalls Tryd.prog 21 [.agg (cellsGTree a0)] σ (fun r' σ' => r' = .int .i64 r ∧ σ' = σ) :=
 (ref09_Depth.ok a0 r h).c σ
def ref04_Check (a0 : GRaw) : Bool :=
 (if ((decide (a0.fTag < 1)) || (decide (500 < a0.fTag))) = true then false else (if a0.fWire = 0 then decide (a0.fB = []) else (((decide (a0.fWire = 1)) && (decide (a0.fN = 0))) && (decide ((lN a0.fB : Int) ≤ 4096)))))
theorem ref04_Check.ok (a0 : GRaw) (r : Bool) (h : ref04_Check a0 = r) : ACalls Tryd.prog 93 [.agg (encGRaw a0)] [] (fun r' _ => r' = .bool r) := by
 refine zm (rs := [.tmp 2]) tok Tryd.func93 rfl Tryd.ntmps93 rfl Tryd.call93 (by simp) ?_
 refine zo [(0, .agg (encGRaw a0))] ⟨rfl, trivial⟩ ?_
 unfold ref04_Check at h
 refine rg tok [1] fun K hK => ?_
 simp only [go_sem, rL, rE, rA, reduceCtorEq, encGRaw]
 refine hK _ _ ?_
 refine ze fun Z1 hZ1 => ?_
 refine rc [1, 10] fun K hK => ?_
 refine za tok 4 ?_
 simp only [go_sem, rL, rE, rA]
 refine zp 4 (fun L τ => L = ([(1, .op 0 0 0), (10, .bool ((decide (a0.fTag < 1)) || (decide (500 < a0.fTag))))] : List (Nat × AV)) ∧ τ = ([.cells 0 [.int .i64 a0.fTag, .int .i64 a0.fWire, .int .i64 a0.fN, .str a0.fB]] : Store)) ?_ ?_
 · refine za1 6 rfl (fun hg6 => ?_) (fun hg6 => ?_)
   · have t2 := eq_true hg6
     refine za tok 4 ?_
     simp only [go_sem, rL, rE]
     refine zb ⟨rfl, _, _, ⟨rfl, rfl⟩, .p t2⟩
   · have t3 := eq_false hg6
     refine za tok 4 ?_
     simp only [go_sem, rL, rE, rA]
     refine zb ⟨rfl, _, _, ⟨rfl, rfl⟩, .p t3⟩
 rintro _ _ ⟨rfl, rfl⟩
 refine zb ?_
 simp only [zd, rE, reduceIte, zl, zn]
 refine hK _ _ ?_
 refine zx (b := ((decide (a0.fTag < 1)) || (decide (500 < a0.fTag)))) rfl (fun hc4 => ?_) (fun hc4 => ?_)
 · rw [if_pos hc4] at h
   refine rg tok [2] fun K hK => ?_
   simp only [go_sem, rL, rE]
   refine hK _ _ ?_
   refine zj ?_
   obtain rfl := h
   exact retA
 · rw [if_F hc4] at h
   refine zi ?_
   refine hZ1 _ _ ?_
   refine ze fun Z5 hZ5 => ?_
   refine rg tok [1, 13] fun K hK => ?_
   simp only [go_sem, rL, rE, rA]
   refine hK _ _ ?_
   refine zA rfl (fun hc6 => ?_) (fun hc6 => ?_)
   · rw [if_pos hc6] at h
     have t7 := eq_true hc6
     refine rg tok [2] fun K hK => ?_
     simp only [go_sem, rL, rE, rA, t7]
     refine hK _ _ ?_
     refine zj ?_
     obtain rfl := h
     exact retA
   · rw [if_neg hc6] at h
     have t8 := eq_false hc6
     refine zi ?_
     refine hZ5 _ _ ?_
     refine rc [2] fun K hK => ?_
     refine za tok 4 ?_
     simp only [go_sem, rL, rE, rA, t8]
     refine zp 4 (fun L τ => L = ([(1, .op 0 0 0), (24, .bool ((decide (a0.fWire = 1)) && (decide (a0.fN = 0))))] : List (Nat × AV)) ∧ τ = ([.cells 0 [.int .i64 a0.fTag, .int .i64 a0.fWire, .int .i64 a0.fN, .str a0.fB]] : Store)) ?_ ?_
     · refine za1 20 rfl (fun hg20 => ?_) (fun hg20 => ?_)
       · have t9 := eq_true hg20
         refine za tok 4 ?_
         simp only [go_sem, rL, rE, rA]
         refine zb ⟨rfl, _, _, ⟨rfl, rfl⟩, .p t9⟩
       · have t10 := eq_false hg20
         refine za tok 4 ?_
         simp only [go_sem, rL, rE]
         refine zb ⟨rfl, _, _, ⟨rfl, rfl⟩, .p t10⟩
     rintro _ _ ⟨rfl, rfl⟩
     refine za tok 1 ?_
     simp only [go_sem, rL, rE]
     refine zp 5 (fun L τ => L = ([(30, .bool (((decide (a0.fWire = 1)) && (decide (a0.fN = 0))) && (decide ((lN a0.fB : Int) ≤ 4096))))] : List (Nat × AV)) ∧ τ = ([.cells 0 [.int .i64 a0.fTag, .int .i64 a0.fWire, .int .i64 a0.fN, .str a0.fB]] : Store)) ?_ ?_
     · refine zI (b := ((decide (a0.fWire = 1)) && (decide (a0.fN = 0)))) 25 rfl (fun hg25 => ?_) (fun hg25 => ?_)
       · refine za tok 5 ?_
         simp only [go_sem, rL, rE, rA]
         refine zb ⟨rfl, _, _, ⟨rfl, rfl⟩, .b hg25⟩
       · refine za tok 5 ?_
         simp only [go_sem, rL, rE]
         refine zb ⟨rfl, _, _, ⟨rfl, rfl⟩, .b hg25⟩
     rintro _ _ ⟨rfl, rfl⟩
     refine za tok 1 ?_
     simp only [go_sem, rL]
     refine zb ?_
     simp only [zd, upd, rE, reduceIte, zl, zn]
     refine hK _ _ ?_
     refine zj ?_
     obtain rfl := h
     exact retA
theorem ref04_Check.ev (a0 : GRaw) (r : Bool) (h : ref04_Check a0 = r) (σ : Store) : ACalls Tryd.prog 93 [.agg (encGRaw a0)] σ (fun r' σ' => r' = .bool r ∧ σ' = σ) :=
 (ref04_Check.ok a0 r h).c σ
def ref09_Has.l4 (a1 : Int) : List GEntry → Int → Bool
 | [], x2 => false
 | y4 :: q4, x2 => (if y4.fTag = a1 then true else ((ref09_Has.l4 a1 q4) (x2 + 1)))
def ref09_Has (a0 : GTree) (a1 : Int) : Bool :=
 (ref09_Has.l4 a1 a0.fEntries 0)
theorem ref09_Has.ok (a0 : GTree) (a1 : Int) (r : Bool) (h : ref09_Has a0 a1 = r) : ACalls Tryd.prog 115 [.agg (cellsGTree a0), .int .i64 a1] [] (fun r' _ => r' = .bool r) := by
 refine zm (rs := [.tmp 4]) tok Tryd.func115 rfl Tryd.ntmps115 rfl Tryd.call115 (by simp) ?_
 refine zo [(0, .agg (cellsGTree a0)), (1, .int .i64 a1)] ⟨rfl, rfl, trivial⟩ ?_
 unfold ref09_Has at h
 refine rg tok [1, 2] fun K hK => ?_
 simp only [go_sem, rL, rE, rA, reduceCtorEq, cellsGTree]
 refine hK _ _ ?_
 refine ze fun Z1 hZ1 => ?_
 refine rg tok [1, 2, 5] fun K hK => ?_
 simp only [go_sem, rL, rE]
 refine hK _ _ ?_
 refine zk ?_
 refine zK1 0 rfl fun hb4 => ?_
 replace hb4 : lN a0.fEntries ≤ 9223372036854775807 := hb4.2.2.2.1.1
 refine zw (fun m L τ => ∃ (p4 q4 : List GEntry) (x2 : Int), m = lN q4 ∧ L = ([(1, .int .i64 a1), (2, .op 0 0 0), (5, .int .i64 x2)] : List (Nat × AV)) ∧ τ = ([.cells 0 [.int .i64 a0.fKind, .int .i64 a0.fN, .str a0.fS, .ds true (fM encGEntry a0.fEntries) (lN a0.fEntries) false, .ds true (fM encGRaw a0.fRest) (lN a0.fRest) false]] : Store) ∧ a0.fEntries = p4 ++ q4 ∧ x2 = (lN p4 : Int) ∧ ref09_Has.l4 a1 q4 x2 = r) _ ⟨[], a0.fEntries, 0, rfl, rfl, rfl, rfl, rfl, h⟩ .s ?_
 rintro m L τ ⟨p4, q4, x2, rfl, rfl, rfl, hE4, hi4, h⟩
 rcases q4 with _ | ⟨y4, q4⟩
 · have hz4 := zN hE4 hi4
   simp only [ref09_Has.l4] at h
   refine ze fun Z5 hZ5 => ?_
   refine rg tok [1, 2, 5, 10] fun K hK => ?_
   simp only [go_sem, rL, rE, rA, hz4]
   refine hK _ _ ?_
   refine zq rfl ?_
   refine zz ?_
   refine hZ1 _ _ ?_
   refine rg tok [4] fun K hK => ?_
   simp only [go_sem, rL, rE]
   refine hK _ _ ?_
   refine zj ?_
   obtain rfl := h
   exact retA
 · obtain ⟨hz4, hw4, hx4, hE'4, hi'4⟩ := zK hE4 hi4 hb4
   simp only [ref09_Has.l4] at h
   refine ze fun Z6 hZ6 => ?_
   refine rg tok [1, 2, 5, 10] fun K hK => ?_
   simp only [go_sem, rL, rE, rA, hz4]
   refine hK _ _ ?_
   refine zt rfl ?_
   refine zi ?_
   refine hZ6 _ _ ?_
   refine ze fun Z7 hZ7 => ?_
   refine zk ?_
   have f8 := E40.idxS hx4
   have f9 := E40.fldS0 (f := 3) rfl rfl hx4
   refine rg tok [1, 2, 5, 20] fun K hK => ?_
   simp only [go_sem, rL, rE, rA, cellsGEntry, zB, f8, f9]
   refine hK _ _ ?_
   refine zA rfl (fun hc10 => ?_) (fun hc10 => ?_)
   · rw [if_pos hc10] at h
     have t11 := eq_true hc10
     refine rg tok [4] fun K hK => ?_
     simp only [go_sem, rL, rE, t11]
     refine hK _ _ ?_
     refine zj ?_
     obtain rfl := h
     exact retA
   · rw [if_neg hc10] at h
     have t12 := eq_false hc10
     refine zi ?_
     refine hZ7 _ _ ?_
     refine rgE tok [1, 2, 5] fun K hK => ?_
     simp only [go_sem, rL, rE, hw4, t12]
     refine hK _ _ ?_
     exact ⟨_, _, _, nS q4.length, ⟨p4 ++ [y4], q4, x2 + 1, rfl, rfl, rfl, hE'4, hi'4, h⟩, .s⟩
theorem ref09_Has.ev (a0 : GTree) (a1 : Int) (r : Bool) (h : ref09_Has a0 a1 = r) (σ : Store) : ACalls Tryd.prog 115 [.agg (cellsGTree a0), .int .i64 a1] σ (fun r' σ' => r' = .bool r ∧ σ' = σ) :=
 (ref09_Has.ok a0 a1 r h).c σ
def ref04_Rising.l4 (a0 : List GRaw) : Nat → Int → Option Bool
 | 0, _ => none
 | k4 + 1, x2 => (if x2 < (lN a0 : Int) then (idxL a0 x2).bind fun y9 => (idxL a0 (IntKind.i64.wrap (x2 - 1))).bind fun y12 => (if y9.fTag < y12.fTag then some false else ((ref04_Rising.l4 a0 k4) (IntKind.i64.wrap (x2 + 1)))) else some true)
def ref04_Rising (a0 : List GRaw) : Option Bool :=
 (ref04_Rising.l4 a0 rounds 1)
theorem ref04_Rising.ok (a0 : List GRaw) (r : Bool) (h : ref04_Rising a0 = some r) : ACalls Tryd.prog 116 [.ds true (fM encGRaw a0) (lN a0) false] [] (fun r' _ => r' = .bool r) := by
 refine zm (rs := [.tmp 2]) tok Tryd.func116 rfl Tryd.ntmps116 rfl Tryd.call116 (by simp) ?_
 refine zo [(0, .ds true (fM encGRaw a0) (lN a0) false)] ⟨rfl, trivial⟩ ?_
 unfold ref04_Rising at h
 refine rg tok [0] fun K hK => ?_
 simp only [go_sem, rL, reduceCtorEq]
 refine hK _ _ ?_
 refine ze fun Z1 hZ1 => ?_
 refine rg tok [0, 3] fun K hK => ?_
 simp only [go_sem, rL, reduceCtorEq]
 refine hK _ _ ?_
 refine zk ?_
 refine zw (fun m L τ => ∃ (k4 : Nat) (x2 : Int), m = 0 + k4 ∧ L = ([(0, .ds true (fM encGRaw a0) (lN a0) false), (3, .int .i64 x2)] : List (Nat × AV)) ∧ τ = ([] : Store) ∧ ref04_Rising.l4 a0 k4 x2 = some r) _ ⟨rounds, 1, rfl, rfl, rfl, h⟩ .s ?_
 rintro m L τ ⟨k4, x2, rfl, rfl, rfl, h⟩
 rcases k4 with _ | k4
 · cases h
 · simp only [ref04_Rising.l4] at h
   refine ze fun Z5 hZ5 => ?_
   refine rg tok [0, 3, 7] fun K hK => ?_
   simp only [go_sem, rL, rE, reduceCtorEq]
   refine hK _ _ ?_
   refine zA rfl (fun hc6 => ?_) (fun hc6 => ?_)
   · rw [if_pos hc6] at h
     have t7 := eq_true hc6
     refine zi ?_
     refine hZ5 _ _ ?_
     refine ze fun Z8 hZ8 => ?_
     refine zk ?_
     obtain ⟨y9, hy9, h⟩ := bind_some h
     have f10 := E22.idxS hy9
     have f11 := E22.fldS0 (f := 3) rfl rfl hy9
     obtain ⟨y12, hy12, h⟩ := bind_some h
     have f13 := E22.idxS hy12
     have f14 := E22.fldS0 (f := 3) rfl rfl hy12
     refine rd [0, 3, 21] fun K hK => ?_
     refine DW.start (T := tab) [.any, .any, .any, .any, .at [], .any, .any, .any, .any, .any, .at [], .any] [] ?_
     refine DW.runN tok 8 ?_
     simp only [go_sem, rL, rE, reduceCtorEq, encGRaw, t7, f10, f11]
     refine DW.runN tok 4 ?_
     simp only [go_sem, rL, rE, reduceCtorEq, encGRaw, f13, f14]
     refine DW.fin tok (by decide +kernel) rfl ?_
     simp only [zd, upd, rE, reduceIte, zl, zn]
     refine hK _ _ ?_
     refine zA rfl (fun hc15 => ?_) (fun hc15 => ?_)
     · rw [if_pos hc15] at h
       have t16 := eq_true hc15
       refine rg tok [2] fun K hK => ?_
       simp only [go_sem, rL, rE, reduceCtorEq, t16]
       refine hK _ _ ?_
       refine zj ?_
       obtain rfl := Option.some.inj h
       exact retA
     · rw [if_neg hc15] at h
       have t17 := eq_false hc15
       refine zi ?_
       refine hZ8 _ _ ?_
       refine rgE tok [0, 3] fun K hK => ?_
       simp only [go_sem, rL, rE, reduceCtorEq, t17]
       refine hK _ _ ?_
       exact ⟨_, _, _, nS (0 + k4), ⟨k4, IntKind.i64.wrap (x2 + 1), rfl, rfl, rfl, h⟩, .s⟩
   · rw [if_neg hc6] at h
     have t18 := eq_false hc6
     refine zz ?_
     refine hZ1 _ _ ?_
     refine rg tok [2] fun K hK => ?_
     simp only [go_sem, rL, rE, reduceCtorEq, t18]
     refine hK _ _ ?_
     refine zj ?_
     obtain rfl := Option.some.inj h
     exact retA
theorem ref04_Rising.ev (a0 : List GRaw) (r : Bool) (h : ref04_Rising a0 = some r) (σ : Store) : ACalls Tryd.prog 116 [.ds true (fM encGRaw a0) (lN a0) false] σ (fun r' σ' => r' = .bool r ∧ σ' = σ) :=
 (ref04_Rising.ok a0 r h).c σ
def ref09_rest.j10 (x2 : Int) (rec4 : Int → Option Bool) (x9 : Bool) : Option Bool :=
 (if x9 = true then some false else (rec4 (x2 + 1)))
def ref09_rest.l4 (a0 : GTree) : List GRaw → Int → Option Bool
 | [], x2 => (ref04_Rising a0.fRest).bind fun r6 => some r6
 | y4 :: q4, x2 => bnd (ref04_Check y4) fun r14 => (if (!r14) = true then (ref09_rest.j10 x2 (ref09_rest.l4 a0 q4) true) else bnd (ref09_Has a0 y4.fTag) fun r17 => (ref09_rest.j10 x2 (ref09_rest.l4 a0 q4) r17))
def ref09_rest (a0 : GTree) : Option Bool :=
 (ref09_rest.l4 a0 a0.fRest 0)
theorem ref09_rest.ok (a0 : GTree) (r : Bool) (h : ref09_rest a0 = some r) : ACalls Tryd.prog 91 [.agg (cellsGTree a0)] [] (fun r' _ => r' = .bool r) := by
 refine zm (rs := [.tmp 2]) tok Tryd.func91 rfl Tryd.ntmps91 rfl Tryd.call91 (by simp) ?_
 refine zo [(0, .agg (cellsGTree a0))] ⟨rfl, trivial⟩ ?_
 unfold ref09_rest at h
 refine rg tok [1] fun K hK => ?_
 simp only [go_sem, rL, rE, rA, reduceCtorEq, cellsGTree]
 refine hK _ _ ?_
 refine ze fun Z1 hZ1 => ?_
 refine rg tok [1, 3] fun K hK => ?_
 simp only [go_sem, rL, rE]
 refine hK _ _ ?_
 refine zk ?_
 refine zK1 0 rfl fun hb4 => ?_
 replace hb4 : lN a0.fRest ≤ 9223372036854775807 := hb4.2.2.2.2.1.1
 refine zw (fun m L τ => ∃ (p4 q4 : List GRaw) (x2 : Int), m = lN q4 ∧ L = ([(1, .op 0 0 0), (3, .int .i64 x2)] : List (Nat × AV)) ∧ τ = ([.cells 0 [.int .i64 a0.fKind, .int .i64 a0.fN, .str a0.fS, .ds true (fM encGEntry a0.fEntries) (lN a0.fEntries) false, .ds true (fM encGRaw a0.fRest) (lN a0.fRest) false]] : Store) ∧ a0.fRest = p4 ++ q4 ∧ x2 = (lN p4 : Int) ∧ ref09_rest.l4 a0 q4 x2 = some r) _ ⟨[], a0.fRest, 0, rfl, rfl, rfl, rfl, rfl, h⟩ .s ?_
 rintro m L τ ⟨p4, q4, x2, rfl, rfl, rfl, hE4, hi4, h⟩
 rcases q4 with _ | ⟨y4, q4⟩
 · have hz4 := zN hE4 hi4
   simp only [ref09_rest.l4] at h
   refine ze fun Z5 hZ5 => ?_
   refine rg tok [1, 3, 8] fun K hK => ?_
   simp only [go_sem, rL, rE, rA, hz4]
   refine hK _ _ ?_
   refine zq rfl ?_
   refine zz ?_
   refine hZ1 _ _ ?_
   refine rc [2] fun K hK => ?_
   obtain ⟨r6, hr6, h⟩ := bind_some h
   refine za tok 2 ?_
   simp only [go_sem, rL, rE, rA]
   refine zh rfl rfl rfl (ref04_Rising.ev a0.fRest r6 hr6 _) ?_
   rintro _ _ ⟨rfl, rfl⟩
   refine za tok 1 ?_
   simp only [go_sem, rL, rE]
   refine zb ?_
   simp only [zd, upd, rE, reduceIte, zl, zn]
   refine hK _ _ ?_
   refine zj ?_
   obtain rfl := Option.some.inj h
   exact retA
 · obtain ⟨hz4, hw4, hx4, hE'4, hi'4⟩ := zK hE4 hi4 hb4
   simp only [ref09_rest.l4] at h
   refine ze fun Z7 hZ7 => ?_
   refine rg tok [1, 3, 8] fun K hK => ?_
   simp only [go_sem, rL, rE, rA, hz4]
   refine hK _ _ ?_
   refine zt rfl ?_
   refine zi ?_
   refine hZ7 _ _ ?_
   refine ze fun Z8 hZ8 => ?_
   refine zk ?_
   refine zk1 (fun L τ => ∃ (x9 : Bool), L = ([(1, .op 0 0 0), (3, .int .i64 x2), (27, .bool x9)] : List (Nat × AV)) ∧ τ = ([.cells 0 [.int .i64 a0.fKind, .int .i64 a0.fN, .str a0.fS, .ds true (fM encGEntry a0.fEntries) (lN a0.fEntries) false, .ds true (fM encGRaw a0.fRest) (lN a0.fRest) false]] : Store) ∧ ref09_rest.j10 x2 (ref09_rest.l4 a0 q4) x9 = some r) ?_ ?_
   · refine rdE [1, 3, 27] fun K hK => ?_
     refine DW.start (T := tab) [.any, .at [], .any, .any, .at [], .eff, .any, .any, .at [], .any, .at [], .any, .any, .any, .at [], .eff, .any] [] ?_
     have f12 := E22.idxS hx4
     have f13 := E22.loadS rfl rfl hx4
     obtain ⟨r14, hr14, h⟩ := zJ h
     refine DW.runN tok 5 ?_
     simp only [go_sem, rL, rE, rA, encGRaw, f12, f13]
     refine DW.call rfl rfl rfl (ref04_Check.ev y4 r14 hr14 _) ?_
     refine DW.runN tok 2 ?_
     simp only [go_sem, rL, rE]
     refine DW.at (b := (!r14)) 18 rfl (fun hg18 => ?_) (fun hg18 => ?_)
     · rw [if_pos hg18] at h
       refine DW.runN tok 8 ?_
       simp only [go_sem, rL, rE]
       refine DW.runN tok 1 ?_
       simp only [go_sem, rL, rE]
       refine DW.fin tok (by decide +kernel) rfl ?_
       simp only [zd, upd, rE, reduceIte, zl, zn]
       refine hK _ _ ?_
       exact ⟨_, _, ⟨true, rfl, rfl, h⟩, .s⟩
     · rw [if_F hg18] at h
       have f15 := E22.idxS hx4
       have f16 := E22.fldS0 (f := 3) rfl rfl hx4
       obtain ⟨r17, hr17, h⟩ := zJ h
       refine DW.runN tok 7 ?_
       simp only [go_sem, rL, rD, rE, rA, encGRaw, f15, f16]
       refine DW.call rfl rfl rfl (ref09_Has.ev a0 y4.fTag r17 hr17 _) ?_
       refine DW.runN tok 1 ?_
       simp only [go_sem, rL, rE]
       refine DW.fin tok (by decide +kernel) rfl ?_
       simp only [zd, upd, rE, reduceIte, zl, zn]
       refine hK _ _ ?_
       exact ⟨_, _, ⟨r17, rfl, rfl, h⟩, .s⟩
   rintro _ _ ⟨x9, rfl, rfl, h⟩
   unfold ref09_rest.j10 at h
   refine zx (b := x9) rfl (fun hc11 => ?_) (fun hc11 => ?_)
   · rw [if_pos hc11] at h
     refine rg tok [2] fun K hK => ?_
     simp only [go_sem, rL, rE]
     refine hK _ _ ?_
     refine zj ?_
     obtain rfl := Option.some.inj h
     exact retA
   · rw [if_F hc11] at h
     refine zi ?_
     refine hZ8 _ _ ?_
     refine rgE tok [1, 3] fun K hK => ?_
     simp only [go_sem, rL, rE, hw4]
     refine hK _ _ ?_
     exact ⟨_, _, _, nS q4.length, ⟨p4 ++ [y4], q4, x2 + 1, rfl, rfl, rfl, hE'4, hi'4, h⟩, .s⟩
end Go.Proofs.YtaddlmlpeghonaaDoor
end
