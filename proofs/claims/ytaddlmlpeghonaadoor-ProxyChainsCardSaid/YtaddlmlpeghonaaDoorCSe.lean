/- Parts of the proof, cut down to what it needs. -/
import Derived.Test.YtaddlmlpeghonaaDoorCFB
set_option linter.constructorNameAsVariable false
set_option linter.unusedSimpArgs false
set_option linter.unusedVariables false
open List renaming length → lN, flatMap → fM, length_append → lP, length_cons → lC, length_nil → lZ, mem_cons_of_mem → mO, mem_cons_self → mS, append_assoc → aA, getD_eq_getElem?_getD → gG, append_nil → aN, map_nil → mN, map_cons → mC, nil_append → nA, flatMap_append → fA, flatMap_nil → fZ, flatMap_cons → fC, mem_append → mA, cons_append → cA, pairwise_cons → pC, length_map → lM, drop_zero → dZ, getElem?_append_right → gR, getElem?_append_left → gL, map_append → mP, length_eq_zero_iff → lI, mem_cons → mI
open Option renaming bind_some → bS, some.injEq → sI
open Nat renaming reduceLT → rL, reduceLeDiff → rD, reduceEqDiff → rE, reduceAdd → rA, reduceMul → rM, reduceSub → rS, zero_add → nZ, le_refl → nR, lt_succ_self → nS
section
set_option maxRecDepth 4000
set_option maxHeartbeats 1000000
namespace Go.Proofs.YtaddlmlpeghonaaDoor
open AM
theorem slices_Clone_Raw.ev (a0 r : List GRaw) (h : slices_Clone_Raw a0 = some r) (σ : Store) : ACalls Tryd.prog 124 [.ds true (fM encGRaw a0) (lN a0) false] σ (fun r' σ' => r' = .ds true (fM encGRaw r) (lN r) false ∧ σ' = σ) :=
 (slices_Clone_Raw.ok a0 r h).pureAt (by simp only [AV.canon, canonL, canon_all, Bool.and_self, Bool.not_false, Bool.true_or]) (by simp only [AV.canon, canon_all, Bool.and_self, Bool.not_false, Bool.true_or]) σ
def value_made.l35 (self_value_made : GTree → Option GValueValue) (l14 : List GValueEntry) (x16 : Int) (rec20 : List GValueEntry → Int → Option GValueValue) (y25 : GEntry) : List GTree → Int → List GValueValue → Option GValueValue
 | [], x31, l29 => (room (lN l14 + 1) 32).bind fun _u37 => (rec20 (l14 ++ [(⟨y25.fTag, l29⟩ : GValueEntry)]) (IntKind.i64.wrap (x16 + 1)))
 | y35 :: q35, x31, l29 => (self_value_made y35).bind fun r43 => (room (lN l29 + 1) 16).bind fun _u45 => ((value_made.l35 self_value_made l14 x16 rec20 y25 q35) (x31 + 1) (l29 ++ [r43]))
def value_made.l20 (self_value_made : GTree → Option GValueValue) (a0 : GTree) (r12 : List GRaw) : Nat → List GValueEntry → Int → Option GValueValue
 | 0, _, _ => none
 | k20 + 1, l14, x16 => (if x16 < (lN a0.fEntries : Int) then (idxL a0.fEntries x16).bind fun y25 => (value_made.l35 self_value_made l14 x16 (value_made.l20 self_value_made a0 r12 k20) y25 y25.fTrees 0 ([] : List GValueValue)) else some (GValueValue.node l14 r12))
def value_made.l62 (self_value_made : GTree → Option GValueValue) (a0 : GTree) (r12 : List GRaw) (y52 : GEntry) : List GTree → Int → List GValueValue → Option GValueValue
 | [], x58, l56 => (value_made.l20 self_value_made a0 r12 rounds [(⟨y52.fTag, l56⟩ : GValueEntry)] (IntKind.i64.wrap (0 + 1)))
 | y62 :: q62, x58, l56 => (self_value_made y62).bind fun r68 => (room (lN l56 + 1) 16).bind fun _u70 => ((value_made.l62 self_value_made a0 r12 y52 q62) (x58 + 1) (l56 ++ [r68]))
def value_made.body (self_value_made : GTree → Option GValueValue) (a0 : GTree) : Option GValueValue :=
 (if a0.fKind = 1 then bnd (value_Num a0.fN) fun r4 => some r4 else (if a0.fKind = 2 then bnd (value_Str a0.fS) fun r9 => some r9 else (slices_Clone_Raw a0.fRest).bind fun r12 => (if 0 < (lN a0.fEntries : Int) then (idxL a0.fEntries 0).bind fun y52 => (value_made.l62 self_value_made a0 r12 y52 y52.fTrees 0 ([] : List GValueValue)) else some (GValueValue.node ([] : List GValueEntry) r12))))
theorem value_made.step (self_value_made : GTree → Option GValueValue) (ih_value_made : ∀ (a0 : GTree) (r : GValueValue), self_value_made a0 = some r → ACalls Tryd.prog 103 [.agg (cellsGTree a0)] [] (fun r' _ => r' = .agg (encGValueValue r))) (a0 : GTree) (r : GValueValue) (h : value_made.body self_value_made a0 = some r) : ACalls Tryd.prog 103 [.agg (cellsGTree a0)] [] (fun r' _ => r' = .agg (encGValueValue r)) := by
 have ev_value_made := fun a0 r h σ => (ih_value_made a0 r h).c σ
 refine zm (rs := [.cell 2 127]) tok Tryd.func103 rfl Tryd.ntmps103 rfl Tryd.call103 (by simp) ?_
 refine zq [(0, .agg (cellsGTree a0))] ⟨rfl, trivial⟩ ?_
 unfold value_made.body at h
 refine rg tok [1, 2] fun K hK => ?_
 simp only [go_sem, rL, rE, rA, reduceCtorEq, cellsGTree]
 refine hK _ _ ?_
 refine zf fun Z1 hZ1 => ?_
 refine rg tok [1, 2, 10] fun K hK => ?_
 simp only [go_sem, rL, rE, rA]
 refine hK _ _ ?_
 refine zk ?_
 refine rg tok [1, 2, 10, 11] fun K hK => ?_
 simp only [go_sem, rL, rE]
 refine hK _ _ ?_
 refine zz rfl (fun hc2 => ?_) (fun hc2 => ?_)
 · rw [if_pos hc2] at h
   have t3 := eq_true hc2
   refine rc [2] fun K hK => ?_
   obtain ⟨r4, hr4, h⟩ := zF h
   refine za tok 2 ?_
   simp only [go_sem, rL, rE, rA, t3]
   refine zh rfl rfl rfl (value_Num.ev a0.fN r4 hr4 _) ?_
   rintro _ _ ⟨rfl, rfl⟩
   have f5 := zd2 r4
   unfold AV.one at f5
   refine za tok 1 ?_
   simp only [go_sem, rD, rE, encGValueValue, f5]
   refine zb ?_
   simp only [ze, upd, rE, reduceIte, zl, zn]
   refine hK _ _ ?_
   refine zj ?_
   obtain rfl := Option.some.inj h
   exact retA
 · rw [if_neg hc2] at h
   have t6 := eq_false hc2
   refine rg tok [1, 2, 16] fun K hK => ?_
   simp only [go_sem, rL, rE, t6]
   refine hK _ _ ?_
   refine zz rfl (fun hc7 => ?_) (fun hc7 => ?_)
   · rw [if_pos hc7] at h
     have t8 := eq_true hc7
     refine rc [2] fun K hK => ?_
     obtain ⟨r9, hr9, h⟩ := zF h
     refine za tok 2 ?_
     simp only [go_sem, rL, rE, rA, t8]
     refine zh rfl rfl rfl (value_Str.ev a0.fS r9 hr9 _) ?_
     rintro _ _ ⟨rfl, rfl⟩
     have f10 := zd2 r9
     unfold AV.one at f10
     refine za tok 1 ?_
     simp only [go_sem, rD, rE, encGValueValue, f10]
     refine zb ?_
     simp only [ze, upd, rE, reduceIte, zl, zn]
     refine hK _ _ ?_
     refine zj ?_
     obtain rfl := Option.some.inj h
     exact retA
   · rw [if_neg hc7] at h
     have t11 := eq_false hc7
     refine zi ?_
     refine hZ1 _ _ ?_
     refine rc [1, 2, 3] fun K hK => ?_
     obtain ⟨r12, hr12, h⟩ := bind_some h
     refine za tok 2 ?_
     simp only [go_sem, rL, rE, rA, t11]
     refine zh rfl rfl rfl (slices_Clone_Raw.ev a0.fRest r12 hr12 _) ?_
     rintro _ _ ⟨rfl, rfl⟩
     refine za tok 3 ?_
     simp only [go_sem, rL, rD, rE, rA]
     refine zb ?_
     simp only [ze, upd, rE, reduceIte, zl, zn]
     refine hK _ _ ?_
     refine zf fun Z13 hZ13 => ?_
     refine rg tok [2, 3, 27, 28, 29] fun K hK => ?_
     simp only [go_sem, rL, rE, rA]
     refine hK _ _ ?_
     refine zk ?_
     refine awp_loopS1 (fun m L τ => ∃ (k20 : Nat) (l14 : List GValueEntry) (x16 : Int) (v15 : Nat), m = 0 + k20 ∧ L = ([(2, .op 0 0 0), (3, .op 1 0 0), (27, .ds true (fM encGEntry a0.fEntries) (lN a0.fEntries) false), (28, .int .i64 (lN a0.fEntries : Int)), (29, .int .i64 x16)] : List (Nat × AV)) ∧ τ = ([.cells 0 [.nilI], .cells 0 [.os true 2 2 v15 0 (lN l14) false, .ds true (fM encGRaw r12) (lN r12) false], .cells v15 (fM encGValueEntry l14)] : Store) ∧ value_made.l20 self_value_made a0 r12 k20 l14 x16 = some r) (rounds + 1) ?_ ?_
     · refine rg tok [2, 3, 27, 28, 29, 30] fun K hK => ?_
       simp only [go_sem, rL, rE]
       refine hK _ _ ?_
       refine zf fun Z48 hZ48 => ?_
       refine zz rfl (fun hc49 => ?_) (fun hc49 => ?_)
       · rw [if_pos hc49] at h
         have t50 := eq_true hc49
         refine zi ?_
         refine hZ48 _ _ ?_
         refine zf fun Z51 hZ51 => ?_
         refine zk ?_
         obtain ⟨y52, hy52, h⟩ := bind_some h
         have f53 := E40.idxS hy52
         have f54 := E40.loadS rfl rfl hy52
         refine rg tok [2, 3, 5, 27, 28, 29] fun K hK => ?_
         simp only [go_sem, rL, rD, rE, rA, cellsGEntry, zO, t50, f53, f54]
         refine hK _ _ ?_
         refine rg tok [2, 3, 5, 6, 27, 28, 29] fun K hK => ?_
         simp only [go_sem, rL, rD, rE, rA]
         refine hK _ _ ?_
         refine zN3 4 1 1 rfl (by simp) rfl (L := [(2, .op 1 0 0), (3, .op 2 0 0), (5, .op 3 0 0), (6, .op 4 0 0), (27, .ds true (fM encGEntry a0.fEntries) (lN a0.fEntries) false), (28, .int .i64 (lN a0.fEntries : Int)), (29, .int .i64 0)]) (τ := [.cells 0 [.int .i64 a0.fKind, .int .i64 a0.fN, .str a0.fS, .ds true (fM encGEntry a0.fEntries) (lN a0.fEntries) false, .ds true (fM encGRaw a0.fRest) (lN a0.fRest) false], .cells 0 [.nilI], .cells 0 [.ds true [] 0 true, .ds true (fM encGRaw r12) (lN r12) false], .cells 0 [.int .i64 y52.fTag, .ds true (fM encGTree y52.fTrees) (lN y52.fTrees) false], .cells 0 [.int .i64 y52.fTag, .os true 1 5 0 0 (lN ([] : List GValueValue)) false], .cells 0 (fM encGValueValue ([] : List GValueValue))]) .s ?_
         refine zf fun Z55 hZ55 => ?_
         refine rg tok [2, 3, 6, 27, 28, 29, 37, 38, 39] fun K hK => ?_
         simp only [go_sem, rL, rE, rA]
         refine hK _ _ ?_
         refine zk ?_
         refine zN 37 fun hb62 => ?_
         replace hb62 : lN y52.fTrees ≤ 9223372036854775807 := hb62.1
         refine zx (fun m L τ => ∃ (p62 q62 : List GTree) (x58 : Int) (l56 : List GValueValue) (v57 : Nat), m = lN q62 ∧ L = ([(2, .op 0 0 0), (3, .op 1 0 0), (6, .op 2 0 0), (27, .ds true (fM encGEntry a0.fEntries) (lN a0.fEntries) false), (28, .int .i64 (lN a0.fEntries : Int)), (29, .int .i64 0), (37, .ds true (fM encGTree y52.fTrees) (lN y52.fTrees) false), (38, .int .i64 (lN y52.fTrees : Int)), (39, .int .i64 x58)] : List (Nat × AV)) ∧ τ = ([.cells 0 [.nilI], .cells 0 [.ds true [] 0 true, .ds true (fM encGRaw r12) (lN r12) false], .cells 0 [.int .i64 y52.fTag, .os true 1 3 v57 0 (lN l56) false], .cells v57 (fM encGValueValue l56)] : Store) ∧ y52.fTrees = p62 ++ q62 ∧ x58 = (lN p62 : Int) ∧ value_made.l62 self_value_made a0 r12 y52 q62 x58 l56 = some r) _ ⟨[], y52.fTrees, 0, ([] : List GValueValue), 0, rfl, rfl, rfl, rfl, rfl, h⟩ (.t [1, 2, 4, 5] false) ?_
         rintro m L τ ⟨p62, q62, x58, l56, v57, rfl, rfl, rfl, hE62, hi62, h⟩
         rcases q62 with _ | ⟨y62, q62⟩
         · have hz62 := zT hE62 hi62
           simp only [value_made.l62] at h
           refine rg tok [2, 3, 6, 27, 28, 29, 37, 38, 39, 40] fun K hK => ?_
           simp only [go_sem, rL, rE, hz62]
           refine hK _ _ ?_
           refine zf fun Z63 hZ63 => ?_
           refine zt rfl ?_
           refine zy ?_
           refine hZ55 _ _ ?_
           refine rdE [2, 3, 27, 28, 29] fun K hK => ?_
           refine DW.start (T := tab) [.any, .any, .any, .any, .own 1 [], .at [], .eff, .eff, .any, .any, .eff] [(1, [])] ?_
           refine DW.runN tok 8 ?_
           simp only [go_sem, rL, rD, rE, rA, rM, reduceCtorEq, zC, zD, List.range_succ, List.range_zero, true_and, Nat.reduceMod, zM, zH, zJ, zc1, List.all_nil, List.all_cons, AV.one, Bool.and_self, nA, lC, lZ, nZ, cA]
           refine DW.runN tok 3 ?_
           simp only [go_sem, rL, rD, rE, rA, lC, lZ, nZ]
           refine DW.fin tok (by decide +kernel) rfl ?_
           simp only [ze, upd, rE, reduceIte, zl, zn]
           refine hK _ _ ?_
           refine hZ51 _ _ ?_
           refine rgE tok [2, 3, 27, 28, 29] fun K hK => ?_
           simp only [go_sem, rL, rE]
           refine hK _ _ ?_
           exact ⟨_, _, _, (Nat.lt_succ_of_le (Nat.le_of_eq (nZ rounds))), ⟨rounds, [(⟨y52.fTag, l56⟩ : GValueEntry)], IntKind.i64.wrap (0 + 1), 0, rfl, rfl, rfl, h⟩, (.t [0, 1, 5] false)⟩
         · obtain ⟨hz62, hw62, hx62, hE'62, hi'62⟩ := zI hE62 hi62 hb62
           simp only [value_made.l62] at h
           refine rg tok [2, 3, 6, 27, 28, 29, 37, 38, 39, 40] fun K hK => ?_
           simp only [go_sem, rL, rE, hz62]
           refine hK _ _ ?_
           refine zf fun Z64 hZ64 => ?_
           refine zw rfl ?_
           refine zi ?_
           refine hZ64 _ _ ?_
           refine zf fun Z65 hZ65 => ?_
           refine zk ?_
           have f66 := E59.idxS hx62
           have f67 := E59.loadS rfl rfl hx62
           refine rg tok [2, 3, 6, 8, 27, 28, 29, 37, 38, 39] fun K hK => ?_
           simp only [go_sem, rL, rD, rE, rA, cellsGTree, zf1, f66, f67]
           refine hK _ _ ?_
           obtain ⟨r68, hr68, h⟩ := bind_some h
           have f69 := zd2 r68
           unfold AV.one at f69
           obtain ⟨_u70, hu70, h⟩ := bind_some h
           have gu70 := zU hu70
           have f71 := (zv E155.len l56)
           refine rdE [2, 3, 6, 27, 28, 29, 37, 38, 39] fun K hK => ?_
           refine DW.start (T := tab) [.any, .own 2 [], .at [], .eff, .eff, .eff, .any, .eff] [(2, [])] ?_
           refine DW.runN tok 3 ?_
           simp only [go_sem, rL, rD, rE, rA, encGValueValue, lC, lZ, nZ]
           refine DW.call rfl rfl rfl (ev_value_made y62 r68 hr68 _) ?_
           refine DW.runN tok 4 ?_
           simp only [go_sem, rL, rD, rE, rA, rM, zC, zD, List.range_succ, List.range_zero, true_and, Nat.reduceMod, zM, zH, zJ, encGValueValue, f69, gu70, f71, zc1, List.all_nil, List.all_cons, AV.one, Bool.and_self, nA, lC, lZ, nZ, cA]
           refine DW.fin tok (by decide +kernel) rfl ?_
           simp only [ze, upd, rE, reduceIte, zl, zn]
           refine hK _ _ ?_
           refine hZ65 _ _ ?_
           refine rgE tok [2, 3, 6, 27, 28, 29, 37, 38, 39] fun K hK => ?_
           simp only [go_sem, rL, rE, hw62]
           refine hK _ _ ?_
           exact ⟨_, _, _, nS q62.length, ⟨p62 ++ [y62], q62, x58 + 1, l56 ++ [r68], v57 + 1, rfl, rfl, rfl, hE'62, hi'62, h⟩, (.t [0, 1, 2, 3] false)⟩
       · rw [if_neg hc49] at h
         have t72 := eq_false hc49
         refine zy ?_
         refine hZ13 _ _ ?_
         refine rg tok [2] fun K hK => ?_
         simp only [go_sem, rL, rD, rE, t72]
         refine hK _ _ ?_
         refine zj ?_
         obtain rfl := Option.some.inj h
         exact retA
     · clear h
       rintro m L τ ⟨k20, l14, x16, v15, rfl, rfl, rfl, h⟩
       rcases k20 with _ | k20
       · cases h
       · simp only [value_made.l20] at h
         refine rg tok [2, 3, 27, 28, 29, 30] fun K hK => ?_
         simp only [go_sem, rL, rE]
         refine hK _ _ ?_
         refine zf fun Z21 hZ21 => ?_
         refine zz rfl (fun hc22 => ?_) (fun hc22 => ?_)
         · rw [if_pos hc22] at h
           have t23 := eq_true hc22
           refine zi ?_
           refine hZ21 _ _ ?_
           refine zf fun Z24 hZ24 => ?_
           refine zk ?_
           obtain ⟨y25, hy25, h⟩ := bind_some h
           have f26 := E40.idxS hy25
           have f27 := E40.loadS rfl rfl hy25
           refine rg tok [2, 3, 5, 27, 28, 29] fun K hK => ?_
           simp only [go_sem, rL, rD, rE, rA, cellsGEntry, zO, t23, f26, f27]
           refine hK _ _ ?_
           refine rg tok [2, 3, 5, 6, 27, 28, 29] fun K hK => ?_
           simp only [go_sem, rL, rD, rE, rA]
           refine hK _ _ ?_
           refine zN3 4 1 1 rfl (by simp) rfl (L := [(2, .op 0 0 0), (3, .op 1 0 0), (5, .op 3 0 0), (6, .op 4 0 0), (27, .ds true (fM encGEntry a0.fEntries) (lN a0.fEntries) false), (28, .int .i64 (lN a0.fEntries : Int)), (29, .int .i64 x16)]) (τ := [.cells 0 [.nilI], .cells 0 [.os true 2 2 v15 0 (lN l14) false, .ds true (fM encGRaw r12) (lN r12) false], .cells v15 (fM encGValueEntry l14), .cells 0 [.int .i64 y25.fTag, .ds true (fM encGTree y25.fTrees) (lN y25.fTrees) false], .cells 0 [.int .i64 y25.fTag, .os true 1 5 0 0 (lN ([] : List GValueValue)) false], .cells 0 (fM encGValueValue ([] : List GValueValue))]) .s ?_
           refine zf fun Z28 hZ28 => ?_
           refine rg tok [2, 3, 6, 27, 28, 29, 37, 38, 39] fun K hK => ?_
           simp only [go_sem, rL, rE, rA]
           refine hK _ _ ?_
           refine zk ?_
           refine zN 37 fun hb35 => ?_
           replace hb35 : lN y25.fTrees ≤ 9223372036854775807 := hb35.1
           refine zx (fun m L τ => ∃ (p35 q35 : List GTree) (x31 : Int) (l29 : List GValueValue) (v30 : Nat), m = lN q35 ∧ L = ([(2, .op 0 0 0), (3, .op 1 0 0), (6, .op 3 0 0), (27, .ds true (fM encGEntry a0.fEntries) (lN a0.fEntries) false), (28, .int .i64 (lN a0.fEntries : Int)), (29, .int .i64 x16), (37, .ds true (fM encGTree y25.fTrees) (lN y25.fTrees) false), (38, .int .i64 (lN y25.fTrees : Int)), (39, .int .i64 x31)] : List (Nat × AV)) ∧ τ = ([.cells 0 [.nilI], .cells 0 [.os true 2 2 v15 0 (lN l14) false, .ds true (fM encGRaw r12) (lN r12) false], .cells v15 (fM encGValueEntry l14), .cells 0 [.int .i64 y25.fTag, .os true 1 4 v30 0 (lN l29) false], .cells v30 (fM encGValueValue l29)] : Store) ∧ y25.fTrees = p35 ++ q35 ∧ x31 = (lN p35 : Int) ∧ value_made.l35 self_value_made l14 x16 (value_made.l20 self_value_made a0 r12 k20) y25 q35 x31 l29 = some r) _ ⟨[], y25.fTrees, 0, ([] : List GValueValue), 0, rfl, rfl, rfl, rfl, rfl, h⟩ (.t [0, 1, 2, 4, 5] false) ?_
           rintro m L τ ⟨p35, q35, x31, l29, v30, rfl, rfl, rfl, hE35, hi35, h⟩
           rcases q35 with _ | ⟨y35, q35⟩
           · have hz35 := zT hE35 hi35
             simp only [value_made.l35] at h
             refine rg tok [2, 3, 6, 27, 28, 29, 37, 38, 39, 40] fun K hK => ?_
             simp only [go_sem, rL, rE, hz35]
             refine hK _ _ ?_
             refine zf fun Z36 hZ36 => ?_
             refine zt rfl ?_
             refine zy ?_
             refine hZ28 _ _ ?_
             obtain ⟨_u37, hu37, h⟩ := bind_some h
             have gu37 := zU hu37
             have f38 := (zv E172.len l14)
             refine rdE [2, 3, 27, 28, 29] fun K hK => ?_
             refine DW.start (T := tab) [.any, .any, .any, .any, .own 1 [], .at [], .eff, .eff, .any, .any, .eff] [(1, [])] ?_
             refine DW.runN tok 8 ?_
             simp only [go_sem, rL, rD, rE, rA, rM, zC, zD, List.range_succ, List.range_zero, true_and, Nat.reduceMod, zM, zH, zJ, gu37, f38, zc1, List.all_nil, List.all_cons, AV.one, Bool.and_self, nA, lC, lZ, nZ, cA]
             refine DW.runN tok 3 ?_
             simp only [go_sem, rL, rD, rE, rA, lC, lZ, nZ]
             refine DW.fin tok (by decide +kernel) rfl ?_
             simp only [ze, upd, rE, reduceIte, zl, zn]
             refine hK _ _ ?_
             refine hZ24 _ _ ?_
             refine rgE tok [2, 3, 27, 28, 29] fun K hK => ?_
             simp only [go_sem, rL, rE]
             refine hK _ _ ?_
             exact ⟨_, _, _, nS (0 + k20), ⟨k20, l14 ++ [(⟨y25.fTag, l29⟩ : GValueEntry)], IntKind.i64.wrap (x16 + 1), v15 + 1, rfl, rfl, rfl, h⟩, (.t [0, 1, 2] false)⟩
           · obtain ⟨hz35, hw35, hx35, hE'35, hi'35⟩ := zI hE35 hi35 hb35
             simp only [value_made.l35] at h
             refine rg tok [2, 3, 6, 27, 28, 29, 37, 38, 39, 40] fun K hK => ?_
             simp only [go_sem, rL, rE, hz35]
             refine hK _ _ ?_
             refine zf fun Z39 hZ39 => ?_
             refine zw rfl ?_
             refine zi ?_
             refine hZ39 _ _ ?_
             refine zf fun Z40 hZ40 => ?_
             refine zk ?_
             have f41 := E59.idxS hx35
             have f42 := E59.loadS rfl rfl hx35
             refine rg tok [2, 3, 6, 8, 27, 28, 29, 37, 38, 39] fun K hK => ?_
             simp only [go_sem, rL, rD, rE, rA, cellsGTree, zf1, f41, f42]
             refine hK _ _ ?_
             obtain ⟨r43, hr43, h⟩ := bind_some h
             have f44 := zd2 r43
             unfold AV.one at f44
             obtain ⟨_u45, hu45, h⟩ := bind_some h
             have gu45 := zU hu45
             have f46 := (zv E155.len l29)
             refine rdE [2, 3, 6, 27, 28, 29, 37, 38, 39] fun K hK => ?_
             refine DW.start (T := tab) [.any, .own 2 [], .at [], .eff, .eff, .eff, .any, .eff] [(2, [])] ?_
             refine DW.runN tok 3 ?_
             simp only [go_sem, rL, rD, rE, rA, encGValueValue, lC, lZ, nZ]
             refine DW.call rfl rfl rfl (ev_value_made y35 r43 hr43 _) ?_
             refine DW.runN tok 4 ?_
             simp only [go_sem, rL, rD, rE, rA, rM, zC, zD, List.range_succ, List.range_zero, true_and, Nat.reduceMod, zM, zH, zJ, encGValueValue, f44, gu45, f46, zc1, List.all_nil, List.all_cons, AV.one, Bool.and_self, nA, lC, lZ, nZ, cA]
             refine DW.fin tok (by decide +kernel) rfl ?_
             simp only [ze, upd, rE, reduceIte, zl, zn]
             refine hK _ _ ?_
             refine hZ40 _ _ ?_
             refine rgE tok [2, 3, 6, 27, 28, 29, 37, 38, 39] fun K hK => ?_
             simp only [go_sem, rL, rE, hw35]
             refine hK _ _ ?_
             exact ⟨_, _, _, nS q35.length, ⟨p35 ++ [y35], q35, x31 + 1, l29 ++ [r43], v30 + 1, rfl, rfl, rfl, hE'35, hi'35, h⟩, (.t [0, 1, 2, 3, 4] false)⟩
         · rw [if_neg hc22] at h
           have t47 := eq_false hc22
           refine zy ?_
           refine hZ13 _ _ ?_
           refine rg tok [2] fun K hK => ?_
           simp only [go_sem, rL, rD, rE, t47]
           refine hK _ _ ?_
           refine zj ?_
           obtain rfl := Option.some.inj h
           exact retA
def value_made : Nat → GTree → Option GValueValue
 | 0, _ => none
 | k + 1, a0 => value_made.body (value_made k) a0
theorem value_made.all (k : Nat) : (∀ (a0 : GTree) (r : GValueValue), value_made k a0 = some r → ACalls Tryd.prog 103 [.agg (cellsGTree a0)] [] (fun r' _ => r' = .agg (encGValueValue r))) := by
 induction k with
 | zero => exact (fun a0 r h => by simp only [value_made] at h; cases h)
 | succ k ih => exact (fun a0 r h => value_made.step _ ih a0 r (by simpa only [value_made] using h))
theorem value_made.ev (k : Nat) (a0 : GTree) (r : GValueValue) (h : value_made k a0 = some r) (σ : Store) : ACalls Tryd.prog 103 [.agg (cellsGTree a0)] σ (fun r' σ' => r' = .agg (encGValueValue r) ∧ σ' = σ) :=
 ((value_made.all k) a0 r h).c σ
def value_Of (a0 : GTree) : Option (GValueValue × Bool) :=
 (value_Check a0).bind fun r2 => (if (!r2) = true then some (GValueValue.nil, false) else (value_made rounds a0).bind fun r4 => some (r4, true))
theorem value_Of.ok (a0 : GTree) (r : GValueValue × Bool) (h : value_Of a0 = some r) : ACalls Tryd.prog 74 [.agg (cellsGTree a0)] [] (fun r' _ => r' = .tup [.agg (encGValueValue r.1), .bool r.2]) := by
 refine zm (rs := [.cell 2 127, .tmp 3]) tok Tryd.func74 rfl Tryd.ntmps74 rfl Tryd.call74 (by simp) ?_
 refine zq [(0, .agg (cellsGTree a0))] ⟨rfl, trivial⟩ ?_
 unfold value_Of at h
 refine rg tok [1, 2] fun K hK => ?_
 simp only [go_sem, rL, rE, rA, reduceCtorEq, cellsGTree]
 refine hK _ _ ?_
 refine zf fun Z1 hZ1 => ?_
 refine rc [1, 2, 6] fun K hK => ?_
 obtain ⟨r2, hr2, h⟩ := bind_some h
 refine za tok 1 ?_
 simp only [go_sem, rL, rD, rE, rA]
 refine zh rfl rfl rfl (value_Check.ev a0 r2 hr2 _) ?_
 rintro _ _ ⟨rfl, rfl⟩
 refine za tok 1 ?_
 simp only [go_sem, rL, rE]
 refine zb ?_
 simp only [ze, upd, rE, reduceIte, zl, zn]
 refine hK _ _ ?_
 refine zr (b := (!r2)) rfl (fun hc3 => ?_) (fun hc3 => ?_)
 · rw [if_pos hc3] at h
   refine rg tok [2, 3] fun K hK => ?_
   simp only [go_sem, rL, rD, rE]
   refine hK _ _ ?_
   refine zj ?_
   obtain rfl := Option.some.inj h
   exact retA
 · rw [if_F hc3] at h
   refine zi ?_
   refine hZ1 _ _ ?_
   refine rc [2, 3] fun K hK => ?_
   obtain ⟨r4, hr4, h⟩ := bind_some h
   refine za tok 1 ?_
   simp only [go_sem, rL, rD, rE, rA]
   refine zh rfl rfl rfl (value_made.ev rounds a0 r4 hr4 _) ?_
   rintro _ _ ⟨rfl, rfl⟩
   have f5 := zd2 r4
   unfold AV.one at f5
   refine za tok 2 ?_
   simp only [go_sem, rL, rD, rE, encGValueValue, f5]
   refine zb ?_
   simp only [ze, upd, rE, reduceIte, zl, zn]
   refine hK _ _ ?_
   refine zj ?_
   obtain rfl := Option.some.inj h
   exact retA
theorem value_Of.ev (a0 : GTree) (r : GValueValue × Bool) (h : value_Of a0 = some r) (σ : Store) : ACalls Tryd.prog 74 [.agg (cellsGTree a0)] σ (fun r' σ' => r' = .tup [.agg (encGValueValue r.1), .bool r.2] ∧ σ' = σ) :=
 (value_Of.ok a0 r h).c σ
def value_Value_MustNode (a0 : GValueValue) : Option GValueNode :=
 (match a0 with | .nil => none | .num n2 => none | .str s2 => none | .node e2 r2 => some (⟨e2, r2⟩ : GValueNode))
theorem value_Value_MustNode.ok (a0 : GValueValue) (r : GValueNode) (h : value_Value_MustNode a0 = some r) : ACalls Tryd.prog 76 [.agg (encGValueValue a0)] [] (fun r' _ => r' = .dp (encGValueNode r) 0) := by
 refine zm (rs := [.tmp 2]) tok Tryd.func76 rfl Tryd.ntmps76 rfl Tryd.call76 (by simp) ?_
 refine zq [(0, .agg (encGValueValue a0))] ⟨rfl, trivial⟩ ?_
 unfold value_Value_MustNode at h
 have f1 := zd2 a0
 unfold AV.one at f1
 refine rg tok [1] fun K hK => ?_
 simp only [go_sem, rL, rE, reduceCtorEq, encGValueValue, f1]
 refine hK _ _ ?_
 rcases a0 with _ | n2 | s2 | ⟨e2, r2⟩
 · dsimp only at h
   try simp only [zO4]
   cases h
 · dsimp only at h
   try simp only [zN4]
   cases h
 · dsimp only at h
   try simp only [zM4]
   cases h
 · dsimp only at h
   try simp only [zm3]
   refine rg tok [2] fun K hK => ?_
   simp only [go_sem, rL, rE, zb1, ze1, TypeDesc.isIface]
   refine hK _ _ ?_
   refine zj ?_
   obtain rfl := Option.some.inj h
   exact retA
theorem value_Value_MustNode.ev (a0 : GValueValue) (r : GValueNode) (h : value_Value_MustNode a0 = some r) (σ : Store) : ACalls Tryd.prog 76 [.agg (encGValueValue a0)] σ (fun r' σ' => r' = .dp (encGValueNode r) 0 ∧ σ' = σ) :=
 (value_Value_MustNode.ok a0 r h).c σ
def value_Node_Rest (a0 : GValueNode) : Option (List GRaw) :=
 (slices_Clone_Raw a0.frest).bind fun r1 => some r1
theorem value_Node_Rest.own (a0 : GValueNode) (r : List GRaw) (h : value_Node_Rest a0 = some r) : ACalls Tryd.prog 104 [.dp (encGValueNode a0) 0] [] (fun r' σ' => r' = .os true 4 0 0 0 (lN r) false ∧ σ' = [.cells 0 (fM encGRaw r)]) := by
 refine ACalls.own0 (by simp only [push_cast]) ?_
 refine zs4 (rs := [.tmp 2]) tok Tryd.func104 rfl Tryd.ntmps104 rfl Tryd.call104 (by simp) ?_
 refine zq [(0, .dp (encGValueNode a0) 0)] ⟨rfl, trivial⟩ ?_
 unfold value_Node_Rest at h
 refine rg tok [0] fun K hK => ?_
 simp only [go_sem, rL, reduceCtorEq]
 refine hK _ _ ?_
 refine rc [2] fun K hK => ?_
 obtain ⟨r1, hr1, h⟩ := bind_some h
 refine za tok 4 ?_
 simp only [go_sem, rL, rE, rA, reduceCtorEq, encGValueNode, za4]
 refine zh rfl rfl rfl (@id (ACalls Tryd.prog 124 [.ds true (fM encGRaw a0.frest) (lN a0.frest) false] [] (fun r' σ' => r' = .os true 4 0 0 0 (lN r1) false ∧ σ' = [.cells 0 (fM encGRaw r1)])) ((slices_Clone_Raw.own a0.frest r1 hr1).ownAt0 (by simp only [push_cast]) (by simp only [push_cast]) _)) ?_
 rintro _ _ ⟨rfl, rfl⟩
 refine za tok 1 ?_
 simp only [go_sem, rL, rE, reduceCtorEq]
 refine zb ?_
 simp only [ze, upd, rE, reduceIte, zl, zn]
 refine hK _ _ ?_
 refine zj ?_
 obtain rfl := Option.some.inj h
 simp only [retQ, zR, zY, zo1, exists_eq_left', go_sem]
 refine ⟨0, 0, by simp, ?_, ?_⟩
 · first | rfl | (simp only [go_sem, rL, rD, rE, rA, rM, rS, reduceIte, reduceCtorEq, push_cast, if_true, dZ, nZ, mC, mN, mP, Bool.or_true, Bool.or_false, Bool.and_true, Bool.and_false, Bool.not_true, Bool.not_false, zE, encGRaw] <;> rfl)
 · first | rfl | (simp only [go_sem, push_cast, mN, zE] <;> rfl)
def value_Node_Tags.l8 : List GValueEntry → Int → List Int → Option (List Int)
 | [], x4, l2 => some l2
 | y8 :: q8, x4, l2 => (room (lN l2 + 1) 8).bind fun _u14 => ((value_Node_Tags.l8 q8) (x4 + 1) (l2 ++ [y8.ftag]))
def value_Node_Tags (a0 : GValueNode) : Option (List Int) :=
 (value_Node_Tags.l8 a0.fentries 0 ([] : List Int))
theorem value_Node_Tags.own (a0 : GValueNode) (r : List Int) (h : value_Node_Tags a0 = some r) : ACalls Tryd.prog 105 [.dp (encGValueNode a0) 0] [] (fun r' σ' => r' = .os true 1 0 0 0 (lN r) false ∧ σ' = [.cells 0 (fM encI r)]) := by
 refine ACalls.own0 (by simp only [push_cast]) ?_
 refine zs4 (rs := [.tmp 2]) tok Tryd.func105 rfl Tryd.ntmps105 rfl Tryd.call105 (by simp) ?_
 refine zq [(0, .dp (encGValueNode a0) 0)] ⟨rfl, trivial⟩ ?_
 unfold value_Node_Tags at h
 refine rg tok [0] fun K hK => ?_
 simp only [go_sem, rL, reduceCtorEq]
 refine hK _ _ ?_
 refine rg tok [0, 3] fun K hK => ?_
 simp only [go_sem, rL, reduceCtorEq]
 refine hK _ _ ?_
 refine zD5 3 1 rfl ?_
 refine zL (L := [(0, .dp (encGValueNode a0) 0), (3, .os true 1 0 0 0 (lN ([] : List Int)) false)]) (τ := [.cells 0 (fM encI ([] : List Int))]) .s ?_
 refine zf fun Z1 hZ1 => ?_
 refine rg tok [3, 9, 10, 11] fun K hK => ?_
 simp only [go_sem, rL, rE, rA, reduceCtorEq, encGValueNode, za4]
 refine hK _ _ ?_
 refine zk ?_
 refine zN 9 fun hb8 => ?_
 replace hb8 : lN a0.fentries ≤ 9223372036854775807 := hb8.1
 refine zx (fun m L τ => ∃ (p8 q8 : List GValueEntry) (x4 : Int) (l2 : List Int) (v3 : Nat), m = lN q8 ∧ L = ([(3, .os true 1 0 v3 0 (lN l2) false), (9, .ds true (fM encGValueEntry a0.fentries) (lN a0.fentries) false), (10, .int .i64 (lN a0.fentries : Int)), (11, .int .i64 x4)] : List (Nat × AV)) ∧ τ = ([.cells v3 (fM encI l2)] : Store) ∧ a0.fentries = p8 ++ q8 ∧ x4 = (lN p8 : Int) ∧ value_Node_Tags.l8 q8 x4 l2 = some r) _ ⟨[], a0.fentries, 0, ([] : List Int), 0, rfl, rfl, rfl, rfl, rfl, h⟩ .s ?_
 rintro m L τ ⟨p8, q8, x4, l2, v3, rfl, rfl, rfl, hE8, hi8, h⟩
 rcases q8 with _ | ⟨y8, q8⟩
 · have hz8 := zT hE8 hi8
   simp only [value_Node_Tags.l8] at h
   refine rg tok [3, 9, 10, 11, 12] fun K hK => ?_
   simp only [go_sem, rL, rE, hz8]
   refine hK _ _ ?_
   refine zf fun Z9 hZ9 => ?_
   refine zt rfl ?_
   refine zy ?_
   refine hZ1 _ _ ?_
   refine rg tok [2] fun K hK => ?_
   simp only [go_sem, rL, rE]
   refine hK _ _ ?_
   refine zj ?_
   obtain rfl := Option.some.inj h
   simp only [retQ, zR, zY, zo1, exists_eq_left', go_sem]
   refine ⟨0, v3, by simp, ?_, ?_⟩
   · first | rfl | (simp only [go_sem, rL, rD, rE, rA, rM, rS, reduceIte, reduceCtorEq, push_cast, if_true, dZ, nZ, mC, mN, mP, Bool.or_true, Bool.or_false, Bool.and_true, Bool.and_false, Bool.not_true, Bool.not_false, zE] <;> rfl)
   · first | rfl | (simp only [go_sem, push_cast, mN, zE] <;> rfl)
 · obtain ⟨hz8, hw8, hx8, hE'8, hi'8⟩ := zI hE8 hi8 hb8
   simp only [value_Node_Tags.l8] at h
   refine rg tok [3, 9, 10, 11, 12] fun K hK => ?_
   simp only [go_sem, rL, rE, hz8]
   refine hK _ _ ?_
   refine zf fun Z10 hZ10 => ?_
   refine zw rfl ?_
   refine zi ?_
   refine hZ10 _ _ ?_
   refine zf fun Z11 hZ11 => ?_
   refine zk ?_
   have f12 := E172.idxS hx8
   have f13 := E172.loadS rfl rfl hx8
   refine rg tok [3, 5, 9, 10, 11] fun K hK => ?_
   simp only [go_sem, rL, rD, rE, rA, cellsGValueEntry, za1, f12, f13]
   refine hK _ _ ?_
   obtain ⟨_u14, hu14, h⟩ := bind_some h
   have gu14 := zU hu14
   have f15 := (zv E24.len l2)
   refine rgE tok [3, 9, 10, 11] fun K hK => ?_
   simp only [go_sem, rL, rD, rE, rA, rM, zC, zD, List.range_succ, List.range_zero, true_and, Nat.reduceMod, zM, zH, zJ, gu14, f15, zc1, List.all_nil, List.all_cons, AV.one, Bool.and_self, nA, lC, lZ, nZ, cA]
   refine hK _ _ ?_
   refine hZ11 _ _ ?_
   refine rgE tok [3, 9, 10, 11] fun K hK => ?_
   simp only [go_sem, rL, rE, hw8]
   refine hK _ _ ?_
   exact ⟨_, _, _, nS q8.length, ⟨p8 ++ [y8], q8, x4 + 1, l2 ++ [y8.ftag], v3 + 1, rfl, rfl, rfl, hE'8, hi'8, h⟩, (.t [0] false)⟩
theorem value_Node_Tags.ok (a0 : GValueNode) (r : List Int) (h : value_Node_Tags a0 = some r) : ACalls Tryd.prog 105 [.dp (encGValueNode a0) 0] [] (fun r' _ => r' = .ds true (fM encI r) (lN r) false) :=
 (value_Node_Tags.own a0 r h).ownData (zv E24.len r) (by simp only [push_cast])
theorem value_Node_Tags.ev (a0 : GValueNode) (r : List Int) (h : value_Node_Tags a0 = some r) (σ : Store) : ACalls Tryd.prog 105 [.dp (encGValueNode a0) 0] σ (fun r' σ' => r' = .ds true (fM encI r) (lN r) false ∧ σ' = σ) :=
 (value_Node_Tags.ok a0 r h).c σ
def slices_Clone_Value (a0 : List GValueValue) : Option (List GValueValue) := (room (lN a0) 16).bind fun _ => some a0
theorem slices_Clone_Value.own (a0 r : List GValueValue) (h : slices_Clone_Value a0 = some r) : ACalls Tryd.prog 125 [.ds true (fM encGValueValue a0) (lN a0) false] [] (fun r' σ' => r' = .os true 1 0 0 0 (lN r) false ∧ σ' = [.cells 0 (fM encGValueValue r)]) := by
 obtain ⟨_u, hu, h⟩ := bind_some h
 have gu := zU hu
 obtain rfl := Option.some.inj h
 have f1 := fun nl tt σ => zB1 E155.len a0 nl tt σ
 have f2 := zv E155.len a0
 have f3 := zT3 encGValueValue a0
 refine zH5 (rs := [.tmp 2]) tok Tryd.func125 rfl Tryd.ntmps125 rfl Tryd.call125 (by simp) ?_
 refine zq [(0, .ds true (fM encGValueValue a0) (lN a0) false)] ⟨rfl, trivial⟩ ?_
 refine rg tok [0] fun K hK => ?_
 simp only [go_sem, rL, reduceCtorEq]
 refine hK _ _ ?_
 refine zf fun Z1 hZ1 => ?_
 refine rc [0, 4] fun K hK => ?_
 refine za tok 1 ?_
 simp only [go_sem, rL]
 refine zn4 tok rfl rfl rfl rfl rfl rfl fun b hnil => ?_
 have hb : b = true → a0 = [] := fun hb => by
  have := hnil hb
  simp only [zJ, go_sem, reduceCtorEq] at this
  exact List.eq_nil_of_length_eq_zero this
 clear hnil
 refine zb ?_
 simp only [ze, updO, upd, rE, reduceIte, zl, zn]
 refine hK _ _ ?_
 cases b
 · refine zt rfl ?_
   refine zi ?_
   refine hZ1 _ _ ?_
   refine rg tok [2] fun K hK => ?_
   by_cases h0 : lN a0 = 0
   · obtain rfl := List.eq_nil_of_length_eq_zero h0
     simp only [go_sem, rL, rE, reduceCtorEq, zC, zD, List.range_zero, Nat.zero_le, zM, zH, zJ, zB, fZ, lZ, Nat.zero_mul, List.all_nil]
     refine hK _ _ ?_
     refine zj ?_
     simp only [retQ, zR, zY, zo1, exists_eq_left', go_sem]
     refine .inl ⟨0, true, by simp, ?_, ?_⟩
     · first | rfl | (simp only [go_sem, rL, rD, rE, rA, rM, rS, reduceIte, reduceCtorEq, zW1, zK1, if_true] <;> rfl)
     · first | rfl | (simp only [go_sem, rL, rD, rE, rA, rM, rS, reduceIte, reduceCtorEq, zz2, zY4, zn2, zB2, zA2, mN] <;> rfl)
   · have h1 := eq_false h0
     simp only [go_sem, rL, rE, reduceCtorEq, zC, zD, List.range_zero, Nat.zero_le, zM, zH, zJ, f1, f3, h1, gu, zc1, mN, nA, Nat.zero_mul]
     refine hK _ _ ?_
     refine zj ?_
     simp only [retQ, zR, zY, zo1, exists_eq_left', go_sem, rA]
     refine .inl ⟨1, false, by simp, ?_, ?_⟩
     · first | rfl | (simp only [go_sem, rL, rD, rE, rA, rM, rS, reduceIte, reduceCtorEq, zW1, zK1, if_true] <;> rfl)
     · first | rfl | (simp only [go_sem, zz2, zn2, zB2, zA2, zE] <;> rfl)
 · obtain rfl := hb rfl
   refine zw rfl ?_
   refine rg tok [2] fun K hK => ?_
   simp only [go_sem, rL, rE, reduceCtorEq]
   refine hK _ _ ?_
   refine zj ?_
   simp only [retQ, zR, zY, zo1, exists_eq_left', go_sem]
   refine .inr ?_
   first | rfl | (simp only [go_sem, rL, rD, rE, rA, rM, rS, reduceIte, reduceCtorEq, zR2, mN, Bool.or_true, Bool.or_false, Bool.not_false, Bool.and_true] <;> rfl)
def value_Node_Get.l4 (a1 : Int) : List GValueEntry → Int → Option (List GValueValue)
 | [], x2 => some ([] : List GValueValue)
 | y4 :: q4, x2 => (if y4.ftag = a1 then (slices_Clone_Value y4.fl).bind fun r12 => some r12 else ((value_Node_Get.l4 a1 q4) (x2 + 1)))
def value_Node_Get (a0 : GValueNode) (a1 : Int) : Option (List GValueValue) :=
 (value_Node_Get.l4 a1 a0.fentries 0)
theorem value_Node_Get.ok (a0 : GValueNode) (a1 : Int) (r : List GValueValue) (h : value_Node_Get a0 a1 = some r) : ACalls Tryd.prog 106 [.dp (encGValueNode a0) 0, .int .i64 a1] [] (fun r' _ => r' = .ds true (fM encGValueValue r) (lN r) false) := by
 refine zm (rs := [.tmp 4]) tok Tryd.func106 rfl Tryd.ntmps106 rfl Tryd.call106 (by simp) ?_
 refine zq [(0, .dp (encGValueNode a0) 0), (1, .int .i64 a1)] ⟨rfl, rfl, trivial⟩ ?_
 unfold value_Node_Get at h
 refine rg tok [0, 1] fun K hK => ?_
 simp only [go_sem, rL, rE, reduceCtorEq]
 refine hK _ _ ?_
 refine zf fun Z1 hZ1 => ?_
 refine rg tok [1, 10, 11, 12] fun K hK => ?_
 simp only [go_sem, rL, rE, rA, reduceCtorEq, encGValueNode, za4]
 refine hK _ _ ?_
 refine zk ?_
 refine zN 10 fun hb4 => ?_
 replace hb4 : lN a0.fentries ≤ 9223372036854775807 := hb4.1
 refine zx (fun m L τ => ∃ (p4 q4 : List GValueEntry) (x2 : Int), m = lN q4 ∧ L = ([(1, .int .i64 a1), (10, .ds true (fM encGValueEntry a0.fentries) (lN a0.fentries) false), (11, .int .i64 (lN a0.fentries : Int)), (12, .int .i64 x2)] : List (Nat × AV)) ∧ τ = ([] : Store) ∧ a0.fentries = p4 ++ q4 ∧ x2 = (lN p4 : Int) ∧ value_Node_Get.l4 a1 q4 x2 = some r) _ ⟨[], a0.fentries, 0, rfl, rfl, rfl, rfl, rfl, h⟩ .s ?_
 rintro m L τ ⟨p4, q4, x2, rfl, rfl, rfl, hE4, hi4, h⟩
 rcases q4 with _ | ⟨y4, q4⟩
 · have hz4 := zT hE4 hi4
   simp only [value_Node_Get.l4] at h
   refine rg tok [1, 10, 11, 12, 13] fun K hK => ?_
   simp only [go_sem, rL, rE, hz4]
   refine hK _ _ ?_
   refine zf fun Z5 hZ5 => ?_
   refine zt rfl ?_
   refine zy ?_
   refine hZ1 _ _ ?_
   refine rg tok [4] fun K hK => ?_
   simp only [go_sem, rL, rE]
   refine hK _ _ ?_
   refine zj ?_
   obtain rfl := Option.some.inj h
   exact retA
 · obtain ⟨hz4, hw4, hx4, hE'4, hi'4⟩ := zI hE4 hi4 hb4
   simp only [value_Node_Get.l4] at h
   refine rg tok [1, 10, 11, 12, 13] fun K hK => ?_
   simp only [go_sem, rL, rE, hz4]
   refine hK _ _ ?_
   refine zf fun Z6 hZ6 => ?_
   refine zw rfl ?_
   refine zi ?_
   refine hZ6 _ _ ?_
   refine zf fun Z7 hZ7 => ?_
   refine zk ?_
   have f8 := E172.idxS hx4
   have f9 := E172.loadS rfl rfl hx4
   refine rg tok [1, 6, 10, 11, 12] fun K hK => ?_
   simp only [go_sem, rL, rD, rE, rA, cellsGValueEntry, za1, f8, f9]
   refine hK _ _ ?_
   refine rg tok [1, 6, 10, 11, 12, 19] fun K hK => ?_
   simp only [go_sem, rL, rE, rA]
   refine hK _ _ ?_
   refine zz rfl (fun hc10 => ?_) (fun hc10 => ?_)
   · rw [if_pos hc10] at h
     have t11 := eq_true hc10
     refine rc [4] fun K hK => ?_
     obtain ⟨r12, hr12, h⟩ := bind_some h
     refine za tok 2 ?_
     simp only [go_sem, rL, rE, rA, t11]
     refine zh rfl rfl rfl (@id (ACalls Tryd.prog 125 [.ds true (fM encGValueValue y4.fl) (lN y4.fl) false] [.cells 0 [.int .i64 y4.ftag, .ds true (fM encGValueValue y4.fl) (lN y4.fl) false]] (fun r' σ' => r' = .os true 1 1 0 0 (lN r12) false ∧ σ' = [.cells 0 [.int .i64 y4.ftag, .ds true (fM encGValueValue y4.fl) (lN y4.fl) false], .cells 0 (fM encGValueValue r12)])) ((slices_Clone_Value.own y4.fl r12 hr12).ownAt0 (by simp only [push_cast]) (by simp only [push_cast]) _)) ?_
     rintro _ _ ⟨rfl, rfl⟩
     refine za tok 1 ?_
     simp only [go_sem, rL, rE]
     refine zb ?_
     simp only [ze, upd, rE, reduceIte, zl, zn]
     refine hK _ _ ?_
     refine zj ?_
     obtain rfl := Option.some.inj h
     exact retA
   · rw [if_neg hc10] at h
     have t13 := eq_false hc10
     refine zi ?_
     refine hZ7 _ _ ?_
     refine rgE tok [1, 10, 11, 12] fun K hK => ?_
     simp only [go_sem, rL, rE, hw4, t13]
     refine hK _ _ ?_
     exact ⟨_, _, _, nS q4.length, ⟨p4 ++ [y4], q4, x2 + 1, rfl, rfl, rfl, hE'4, hi'4, h⟩, (.t [] false)⟩
theorem value_Node_Get.ev (a0 : GValueNode) (a1 : Int) (r : List GValueValue) (h : value_Node_Get a0 a1 = some r) (σ : Store) : ACalls Tryd.prog 106 [.dp (encGValueNode a0) 0, .int .i64 a1] σ (fun r' σ' => r' = .ds true (fM encGValueValue r) (lN r) false ∧ σ' = σ) :=
 (value_Node_Get.ok a0 a1 r h).c σ
def value_Value_AsNum (a0 : GValueValue) : Int × Bool :=
 (match a0 with | .nil => (0, false) | .num n2 => (n2, true) | .str s2 => (0, false) | .node e2 r2 => (0, false))
theorem value_Value_AsNum.ok (a0 : GValueValue) (r : Int × Bool) (h : value_Value_AsNum a0 = r) : ACalls Tryd.prog 130 [.agg (encGValueValue a0)] [] (fun r' _ => r' = .tup [.int .i64 r.1, .bool r.2]) := by
 refine zm (rs := [.tmp 2, .tmp 3]) tok Tryd.func130 rfl Tryd.ntmps130 rfl Tryd.call130 (by simp) ?_
 refine zq [(0, .agg (encGValueValue a0))] ⟨rfl, trivial⟩ ?_
 unfold value_Value_AsNum at h
 have f1 := zd2 a0
 unfold AV.one at f1
 refine rg tok [1] fun K hK => ?_
 simp only [go_sem, rL, rE, reduceCtorEq, encGValueValue, f1]
 refine hK _ _ ?_
 rcases a0 with _ | n2 | s2 | ⟨e2, r2⟩
 · dsimp only at h
   try simp only [zO4]
   refine rg tok [4, 5] fun K hK => ?_
   simp only [go_sem, rL, rE, rA, zb1, ze1, TypeDesc.isIface]
   refine hK _ _ ?_
   refine rg tok [2, 3] fun K hK => ?_
   simp only [go_sem, rL, rE]
   refine hK _ _ ?_
   refine zj ?_
   obtain rfl := h
   exact retA
 · dsimp only at h
   try simp only [zN4]
   refine rg tok [4, 5] fun K hK => ?_
   simp only [go_sem, rL, rE, rA, zb1, ze1, TypeDesc.isIface]
   refine hK _ _ ?_
   refine rg tok [2, 3] fun K hK => ?_
   simp only [go_sem, rL, rE]
   refine hK _ _ ?_
   refine zj ?_
   obtain rfl := h
   exact retA
 · dsimp only at h
   try simp only [zM4]
   refine rg tok [4, 5] fun K hK => ?_
   simp only [go_sem, rL, rE, rA, zb1, ze1, TypeDesc.isIface]
   refine hK _ _ ?_
   refine rg tok [2, 3] fun K hK => ?_
   simp only [go_sem, rL, rE]
   refine hK _ _ ?_
   refine zj ?_
   obtain rfl := h
   exact retA
 · dsimp only at h
   try simp only [zm3]
   refine rg tok [4, 5] fun K hK => ?_
   simp only [go_sem, rL, rE, rA, zb1, ze1, TypeDesc.isIface]
   refine hK _ _ ?_
   refine rg tok [2, 3] fun K hK => ?_
   simp only [go_sem, rL, rE]
   refine hK _ _ ?_
   refine zj ?_
   obtain rfl := h
   exact retA
theorem value_Value_AsNum.ev (a0 : GValueValue) (r : Int × Bool) (h : value_Value_AsNum a0 = r) (σ : Store) : ACalls Tryd.prog 130 [.agg (encGValueValue a0)] σ (fun r' σ' => r' = .tup [.int .i64 r.1, .bool r.2] ∧ σ' = σ) :=
 (value_Value_AsNum.ok a0 r h).c σ
def value_Value_AsStr (a0 : GValueValue) : List UInt8 × Bool :=
 (match a0 with | .nil => ([], false) | .num n2 => ([], false) | .str s2 => (s2, true) | .node e2 r2 => ([], false))
theorem value_Value_AsStr.ok (a0 : GValueValue) (r : List UInt8 × Bool) (h : value_Value_AsStr a0 = r) : ACalls Tryd.prog 131 [.agg (encGValueValue a0)] [] (fun r' _ => r' = .tup [.str r.1, .bool r.2]) := by
 refine zm (rs := [.tmp 2, .tmp 3]) tok Tryd.func131 rfl Tryd.ntmps131 rfl Tryd.call131 (by simp) ?_
 refine zq [(0, .agg (encGValueValue a0))] ⟨rfl, trivial⟩ ?_
 unfold value_Value_AsStr at h
 have f1 := zd2 a0
 unfold AV.one at f1
 refine rg tok [1] fun K hK => ?_
 simp only [go_sem, rL, rE, reduceCtorEq, encGValueValue, f1]
 refine hK _ _ ?_
 rcases a0 with _ | n2 | s2 | ⟨e2, r2⟩
 · dsimp only at h
   try simp only [zO4]
   refine rg tok [4, 5] fun K hK => ?_
   simp only [go_sem, rL, rE, rA, zb1, ze1, TypeDesc.isIface]
   refine hK _ _ ?_
   refine rg tok [2, 3] fun K hK => ?_
   simp only [go_sem, rL, rE]
   refine hK _ _ ?_
   refine zj ?_
   obtain rfl := h
   exact retA
 · dsimp only at h
   try simp only [zN4]
   refine rg tok [4, 5] fun K hK => ?_
   simp only [go_sem, rL, rE, rA, zb1, ze1, TypeDesc.isIface]
   refine hK _ _ ?_
   refine rg tok [2, 3] fun K hK => ?_
   simp only [go_sem, rL, rE]
   refine hK _ _ ?_
   refine zj ?_
   obtain rfl := h
   exact retA
 · dsimp only at h
   try simp only [zM4]
   refine rg tok [4, 5] fun K hK => ?_
   simp only [go_sem, rL, rE, rA, zb1, ze1, TypeDesc.isIface]
   refine hK _ _ ?_
   refine rg tok [2, 3] fun K hK => ?_
   simp only [go_sem, rL, rE]
   refine hK _ _ ?_
   refine zj ?_
   obtain rfl := h
   exact retA
 · dsimp only at h
   try simp only [zm3]
   refine rg tok [4, 5] fun K hK => ?_
   simp only [go_sem, rL, rE, rA, zb1, ze1, TypeDesc.isIface]
   refine hK _ _ ?_
   refine rg tok [2, 3] fun K hK => ?_
   simp only [go_sem, rL, rE]
   refine hK _ _ ?_
   refine zj ?_
   obtain rfl := h
   exact retA
theorem value_Value_AsStr.ev (a0 : GValueValue) (r : List UInt8 × Bool) (h : value_Value_AsStr a0 = r) (σ : Store) : ACalls Tryd.prog 131 [.agg (encGValueValue a0)] σ (fun r' σ' => r' = .tup [.str r.1, .bool r.2] ∧ σ' = σ) :=
 (value_Value_AsStr.ok a0 r h).c σ
def encode_kept (a0 : GValueValue) : Option GValueValue :=
 bnd (value_Value_AsNum a0) fun r3 => (if r3.2 = true then some (GValueValue.num r3.1) else bnd (value_Value_AsStr a0) fun r6 => (if r6.2 = true then some (GValueValue.str r6.1) else (value_Value_MustNode a0).bind fun r8 => some (GValueValue.node r8.fentries r8.frest)))
theorem encode_kept.ok (a0 : GValueValue) (r : GValueValue) (h : encode_kept a0 = some r) : ACalls Tryd.prog 126 [.agg (encGValueValue a0)] [] (fun r' _ => r' = anyV r) := by
 refine zm (rs := [.tmp 2]) tok Tryd.func126 rfl Tryd.ntmps126 rfl Tryd.call126 (by simp) ?_
 refine zq [(0, .agg (encGValueValue a0))] ⟨rfl, trivial⟩ ?_
 unfold encode_kept at h
 have f1 := zd2 a0
 unfold AV.one at f1
 refine rg tok [1] fun K hK => ?_
 simp only [go_sem, rL, rE, reduceCtorEq, encGValueValue, f1]
 refine hK _ _ ?_
 refine zf fun Z2 hZ2 => ?_
 refine rc [1, 3, 4] fun K hK => ?_
 obtain ⟨r3, hr3, h⟩ := zF h
 refine za tok 1 ?_
 simp only [go_sem, rL, rD]
 refine zh rfl rfl rfl (value_Value_AsNum.ev a0 r3 hr3 _) ?_
 rintro _ _ ⟨rfl, rfl⟩
 refine za tok 5 ?_
 simp only [go_sem, rL, rE, rA]
 refine zb ?_
 simp only [ze, upd, rE, reduceIte, zl, zn]
 refine hK _ _ ?_
 refine rg tok [1, 3, 12] fun K hK => ?_
 simp only [go_sem, rL, rE]
 refine hK _ _ ?_
 refine zr (b := r3.2) rfl (fun hc4 => ?_) (fun hc4 => ?_)
 · rw [if_pos hc4] at h
   refine rg tok [2] fun K hK => ?_
   simp only [go_sem, rL, rE]
   refine hK _ _ ?_
   refine zj ?_
   obtain rfl := Option.some.inj h
   exact retA
 · rw [if_F hc4] at h
   refine zi ?_
   refine hZ2 _ _ ?_
   refine zf fun Z5 hZ5 => ?_
   refine rc [1, 5, 6] fun K hK => ?_
   obtain ⟨r6, hr6, h⟩ := zF h
   refine za tok 1 ?_
   simp only [go_sem, rL, rD, rE]
   refine zh rfl rfl rfl (value_Value_AsStr.ev a0 r6 hr6 _) ?_
   rintro _ _ ⟨rfl, rfl⟩
   refine za tok 5 ?_
   simp only [go_sem, rL, rE, rA]
   refine zb ?_
   simp only [ze, upd, rE, reduceIte, zl, zn]
   refine hK _ _ ?_
   refine rg tok [1, 5, 20] fun K hK => ?_
   simp only [go_sem, rL, rE]
   refine hK _ _ ?_
   refine zr (b := r6.2) rfl (fun hc7 => ?_) (fun hc7 => ?_)
   · rw [if_pos hc7] at h
     refine rg tok [2] fun K hK => ?_
     simp only [go_sem, rL, rE]
     refine hK _ _ ?_
     refine zj ?_
     obtain rfl := Option.some.inj h
     exact retA
   · rw [if_F hc7] at h
     refine zi ?_
     refine hZ5 _ _ ?_
     refine rc [2] fun K hK => ?_
     obtain ⟨r8, hr8, h⟩ := bind_some h
     refine za tok 1 ?_
     simp only [go_sem, rL, rD, rE]
     refine zh rfl rfl rfl (value_Value_MustNode.ev a0 r8 hr8 _) ?_
     rintro _ _ ⟨rfl, rfl⟩
     refine za tok 2 ?_
     simp only [go_sem, rL, rE]
     refine zb ?_
     simp only [ze, upd, rE, reduceIte, zl, zn]
     refine hK _ _ ?_
     refine zj ?_
     obtain rfl := Option.some.inj h
     exact retA
theorem encode_kept.ev (a0 : GValueValue) (r : GValueValue) (h : encode_kept a0 = some r) (σ : Store) : ACalls Tryd.prog 126 [.agg (encGValueValue a0)] σ (fun r' σ' => r' = anyV r ∧ σ' = σ) :=
 (encode_kept.ok a0 r h).c σ
def vint_Put.l9 : Nat → List UInt8 → Int → Option (List UInt8)
 | 0, _, _ => none
 | k9 + 1, l3, x5 => (if 128 ≤ x5 then (room (lN l3 + 1) 1).bind fun _u14 => ((vint_Put.l9 k9) (l3 ++ [UInt8.ofNat (Int.toNat (IntKind.u8.wrap ((BitVec.toNat (BitVec.ofInt 8 (IntKind.u8.wrap x5) ||| BitVec.ofInt 8 128) : Nat) : Int)))]) (Int.fdiv x5 (2 ^ (min (Int.toNat 7) 64)))) else (room (lN l3 + 1) 1).bind fun _u18 => some (l3 ++ [UInt8.ofNat (Int.toNat (IntKind.u8.wrap x5))]))
def vint_Put (a0 : List UInt8) (a1 : Int) : Option (List UInt8) :=
 (if 128 ≤ a1 then (room (lN a0 + 1) 1).bind fun _u24 => (vint_Put.l9 rounds (a0 ++ [UInt8.ofNat (Int.toNat (IntKind.u8.wrap ((BitVec.toNat (BitVec.ofInt 8 (IntKind.u8.wrap a1) ||| BitVec.ofInt 8 128) : Nat) : Int)))]) (Int.fdiv a1 (2 ^ (min (Int.toNat 7) 64)))) else (room (lN a0 + 1) 1).bind fun _u28 => some (a0 ++ [UInt8.ofNat (Int.toNat (IntKind.u8.wrap a1))]))
theorem vint_Put.own (a0 : List UInt8) (a1 : Int) (r : List UInt8) (h : vint_Put a0 a1 = some r) : ACalls Tryd.prog 38 [.ds true (fM encB a0) (lN a0) false, .int .u64 a1] [] (fun r' σ' => r' = .os true 1 0 0 0 (lN r) false ∧ σ' = [.cells 0 (fM encB r)]) := by
 refine ACalls.own0 (by simp only [push_cast]) ?_
 refine zs4 (rs := [.tmp 4]) tok Tryd.func38 rfl Tryd.ntmps38 rfl Tryd.call38 (by simp) ?_
 refine zq [(0, .ds true (fM encB a0) (lN a0) false), (1, .int .u64 a1)] ⟨rfl, rfl, trivial⟩ ?_
 unfold vint_Put at h
 refine rg tok [0, 1] fun K hK => ?_
 simp only [go_sem, rL, rE, reduceCtorEq]
 refine hK _ _ ?_
 have f1 := E35.sl_tight a0 .i64 .i64
 refine rg tok [0, 1] fun K hK => ?_
 simp only [go_sem, rL, rE, reduceCtorEq, f1]
 refine hK _ _ ?_
 refine zf fun Z2 hZ2 => ?_
 refine zk ?_
 refine awp_loopS1 (fun m L τ => ∃ (k9 : Nat) (l3 : List UInt8) (x5 : Int) (v4 : Nat), m = 0 + k9 ∧ L = ([(0, .os true 1 0 v4 0 (lN l3) false), (1, .int .u64 x5)] : List (Nat × AV)) ∧ τ = ([.cells v4 (fM encB l3)] : Store) ∧ vint_Put.l9 k9 l3 x5 = some r) (rounds + 1) ?_ ?_
 · refine zf fun Z20 hZ20 => ?_
   refine rg tok [0, 1, 12] fun K hK => ?_
   simp only [go_sem, rL, rE, reduceCtorEq]
   refine hK _ _ ?_
   refine zz rfl (fun hc21 => ?_) (fun hc21 => ?_)
   · rw [if_pos hc21] at h
     have t22 := eq_true hc21
     refine zi ?_
     refine hZ20 _ _ ?_
     refine zk ?_
     have f23 := zn1 (T := tab) (src := 85) (dst := 5) rfl rfl rfl
     obtain ⟨_u24, hu24, h⟩ := bind_some h
     have gu24 := zU hu24
     have f25 := app_tight E35.len a0 (m := 1) (by decide)
     refine rg tok [0, 1] fun K hK => ?_
     simp only [go_sem, rL, rD, rE, rM, reduceCtorEq, zC, zD, List.range_succ, List.range_zero, true_and, Nat.reduceMod, zM, zJ, t22, f23, gu24, f25, zc1, List.all_nil, List.all_cons, AV.one, Bool.and_self, nA, lC, lZ, nZ, cA]
     refine hK _ _ ?_
     refine zL (L := [(0, .os true 1 1 0 0 (lN (a0 ++ [UInt8.ofNat (Int.toNat (IntKind.u8.wrap ((BitVec.toNat (BitVec.ofInt 8 (IntKind.u8.wrap a1) ||| BitVec.ofInt 8 128) : Nat) : Int)))])) false), (1, .int .u64 a1)]) (τ := [.cells 0 [.int .u8 (IntKind.u8.wrap ((BitVec.toNat (BitVec.ofInt 8 (IntKind.u8.wrap a1) ||| BitVec.ofInt 8 128) : Nat) : Int))], .cells 0 (fM encB (a0 ++ [UInt8.ofNat (Int.toNat (IntKind.u8.wrap ((BitVec.toNat (BitVec.ofInt 8 (IntKind.u8.wrap a1) ||| BitVec.ofInt 8 128) : Nat) : Int)))]))]) (.same (by first | exact ⟨rfl, rfl, trivial⟩ | rfl | (simp only [go_sem, reduceCtorEq, Fits, lP, lC, lZ, nZ, and_self] <;> rfl)) (by first | exact ⟨rfl, rfl, trivial⟩ | rfl | (simp only [go_sem, encB, fA, fC, fZ, aN, u8_wrap] <;> rfl))) ?_
     refine rgE tok [0, 1] fun K hK => ?_
     simp only [go_sem, rL, rE, reduceCtorEq, zy2, Int.reduceLT]
     refine hK _ _ ?_
     exact ⟨_, _, _, (Nat.lt_succ_of_le (Nat.le_of_eq (nZ rounds))), ⟨rounds, a0 ++ [UInt8.ofNat (Int.toNat (IntKind.u8.wrap ((BitVec.toNat (BitVec.ofInt 8 (IntKind.u8.wrap a1) ||| BitVec.ofInt 8 128) : Nat) : Int)))], Int.fdiv a1 (2 ^ (min (Int.toNat 7) 64)), 0, rfl, rfl, rfl, h⟩, (.t [1] false)⟩
   · rw [if_neg hc21] at h
     have t26 := eq_false hc21
     refine zy ?_
     refine hZ2 _ _ ?_
     have f27 := zn1 (T := tab) (src := 85) (dst := 5) rfl rfl rfl
     obtain ⟨_u28, hu28, h⟩ := bind_some h
     have gu28 := zU hu28
     have f29 := app_tight E35.len a0 (m := 1) (by decide)
     refine rg tok [4] fun K hK => ?_
     simp only [go_sem, rL, rD, rE, rM, reduceCtorEq, zC, zD, List.range_succ, List.range_zero, true_and, Nat.reduceMod, zM, zJ, t26, f27, gu28, f29, zc1, List.all_nil, List.all_cons, AV.one, Bool.and_self, nA, lC, lZ, nZ, cA]
     refine hK _ _ ?_
     refine zL (L := [(4, .os true 1 1 0 0 (lN (a0 ++ [UInt8.ofNat (Int.toNat (IntKind.u8.wrap a1))])) false)]) (τ := [.cells 0 [.int .u8 (IntKind.u8.wrap a1)], .cells 0 (fM encB (a0 ++ [UInt8.ofNat (Int.toNat (IntKind.u8.wrap a1))]))]) (.same (by first | exact ⟨rfl, trivial⟩ | rfl | (simp only [go_sem, Fits, lP, lC, lZ, nZ, and_self] <;> rfl)) (by first | exact ⟨rfl, trivial⟩ | rfl | (simp only [go_sem, encB, fA, fC, fZ, aN, u8_wrap] <;> rfl))) ?_
     refine zj ?_
     obtain rfl := Option.some.inj h
     simp only [retQ, zR, zY, zo1, exists_eq_left', go_sem, rA]
     refine ⟨1, 0, by simp, ?_, ?_⟩
     · first | rfl | (simp only [go_sem, rL, rD, rE, rA, rM, rS, reduceIte, reduceCtorEq, push_cast, if_true, dZ, nZ, mC, mN, mP, Bool.or_true, Bool.or_false, Bool.and_true, Bool.and_false, Bool.not_true, Bool.not_false, zE] <;> rfl)
     · first | rfl | (simp only [go_sem, push_cast, mN, zE] <;> rfl)
 · clear h
   rintro m L τ ⟨k9, l3, x5, v4, rfl, rfl, rfl, h⟩
   rcases k9 with _ | k9
   · cases h
   · simp only [vint_Put.l9] at h
     refine zf fun Z10 hZ10 => ?_
     refine rg tok [0, 1, 12] fun K hK => ?_
     simp only [go_sem, rL, rE, reduceCtorEq]
     refine hK _ _ ?_
     refine zz rfl (fun hc11 => ?_) (fun hc11 => ?_)
     · rw [if_pos hc11] at h
       have t12 := eq_true hc11
       refine zi ?_
       refine hZ10 _ _ ?_
       refine zk ?_
       have f13 := zn1 (T := tab) (src := 85) (dst := 5) rfl rfl rfl
       obtain ⟨_u14, hu14, h⟩ := bind_some h
       have gu14 := zU hu14
       have f15 := (zv E35.len l3)
       refine rg tok [0, 1] fun K hK => ?_
       simp only [go_sem, rL, rD, rE, rM, reduceCtorEq, zC, zD, List.range_succ, List.range_zero, true_and, Nat.reduceMod, zM, zH, zJ, t12, f13, gu14, f15, zc1, List.all_nil, List.all_cons, AV.one, Bool.and_self, nA, lC, lZ, nZ, cA]
       refine hK _ _ ?_
       refine zL (L := [(0, .os true 1 0 (v4 + 1) 0 (lN (l3 ++ [UInt8.ofNat (Int.toNat (IntKind.u8.wrap ((BitVec.toNat (BitVec.ofInt 8 (IntKind.u8.wrap x5) ||| BitVec.ofInt 8 128) : Nat) : Int)))])) false), (1, .int .u64 x5)]) (τ := [.cells (v4 + 1) (fM encB (l3 ++ [UInt8.ofNat (Int.toNat (IntKind.u8.wrap ((BitVec.toNat (BitVec.ofInt 8 (IntKind.u8.wrap x5) ||| BitVec.ofInt 8 128) : Nat) : Int)))])), .cells 0 [.int .u8 (IntKind.u8.wrap ((BitVec.toNat (BitVec.ofInt 8 (IntKind.u8.wrap x5) ||| BitVec.ofInt 8 128) : Nat) : Int))]]) (.same (by first | exact ⟨rfl, rfl, trivial⟩ | rfl | (simp only [go_sem, reduceCtorEq, Fits, lP, lC, lZ, nZ, and_self] <;> rfl)) (by first | exact ⟨rfl, rfl, trivial⟩ | rfl | (simp only [go_sem, encB, fA, fC, fZ, aN, u8_wrap] <;> rfl))) ?_
       refine rgE tok [0, 1] fun K hK => ?_
       simp only [go_sem, rL, rE, reduceCtorEq, zy2, Int.reduceLT]
       refine hK _ _ ?_
       exact ⟨_, _, _, nS (0 + k9), ⟨k9, l3 ++ [UInt8.ofNat (Int.toNat (IntKind.u8.wrap ((BitVec.toNat (BitVec.ofInt 8 (IntKind.u8.wrap x5) ||| BitVec.ofInt 8 128) : Nat) : Int)))], Int.fdiv x5 (2 ^ (min (Int.toNat 7) 64)), v4 + 1, rfl, rfl, rfl, h⟩, (.t [0] false)⟩
     · rw [if_neg hc11] at h
       have t16 := eq_false hc11
       refine zy ?_
       refine hZ2 _ _ ?_
       have f17 := zn1 (T := tab) (src := 85) (dst := 5) rfl rfl rfl
       obtain ⟨_u18, hu18, h⟩ := bind_some h
       have gu18 := zU hu18
       have f19 := (zv E35.len l3)
       refine rg tok [4] fun K hK => ?_
       simp only [go_sem, rL, rD, rE, rM, reduceCtorEq, zC, zD, List.range_succ, List.range_zero, true_and, Nat.reduceMod, zM, zH, zJ, t16, f17, gu18, f19, zc1, List.all_nil, List.all_cons, AV.one, Bool.and_self, nA, lC, lZ, nZ, cA]
       refine hK _ _ ?_
       refine zL (L := [(4, .os true 1 0 (v4 + 1) 0 (lN (l3 ++ [UInt8.ofNat (Int.toNat (IntKind.u8.wrap x5))])) false)]) (τ := [.cells (v4 + 1) (fM encB (l3 ++ [UInt8.ofNat (Int.toNat (IntKind.u8.wrap x5))])), .cells 0 [.int .u8 (IntKind.u8.wrap x5)]]) (.same (by first | exact ⟨rfl, trivial⟩ | rfl | (simp only [go_sem, Fits, lP, lC, lZ, nZ, and_self] <;> rfl)) (by first | exact ⟨rfl, trivial⟩ | rfl | (simp only [go_sem, encB, fA, fC, fZ, aN, u8_wrap] <;> rfl))) ?_
       refine zj ?_
       obtain rfl := Option.some.inj h
       simp only [retQ, zR, zY, zo1, exists_eq_left', go_sem, rA]
       refine ⟨0, v4 + 1, by simp, ?_, ?_⟩
       · first | rfl | (simp only [go_sem, rL, rD, rE, rA, rM, rS, reduceIte, reduceCtorEq, push_cast, if_true, dZ, nZ, mC, mN, mP, Bool.or_true, Bool.or_false, Bool.and_true, Bool.and_false, Bool.not_true, Bool.not_false, zE] <;> rfl)
       · first | rfl | (simp only [go_sem, push_cast, mN, zE] <;> rfl)
theorem vint_Put.ok (a0 : List UInt8) (a1 : Int) (r : List UInt8) (h : vint_Put a0 a1 = some r) : ACalls Tryd.prog 38 [.ds true (fM encB a0) (lN a0) false, .int .u64 a1] [] (fun r' _ => r' = .ds true (fM encB r) (lN r) false) :=
 (vint_Put.own a0 a1 r h).ownData (zv E35.len r) (by simp only [push_cast])
theorem vint_Put.ev (a0 : List UInt8) (a1 : Int) (r : List UInt8) (h : vint_Put a0 a1 = some r) (σ : Store) : ACalls Tryd.prog 38 [.ds true (fM encB a0) (lN a0) false, .int .u64 a1] σ (fun r' σ' => r' = .ds true (fM encB r) (lN r) false ∧ σ' = σ) :=
 (vint_Put.ok a0 a1 r h).c σ
def vint_Zig (a0 : Int) : Int :=
 IntKind.u64.wrap ((BitVec.toNat (BitVec.ofInt 64 (IntKind.u64.wrap ((IntKind.u64.wrap a0) * 2 ^ (min (Int.toNat 1) 64))) ^^^ BitVec.ofInt 64 (IntKind.u64.wrap (Int.fdiv a0 (2 ^ (min (Int.toNat 63) 64))))) : Nat) : Int)
theorem vint_Zig.ok (a0 : Int) (r : Int) (h : vint_Zig a0 = r) : ACalls Tryd.prog 39 [.int .i64 a0] [] (fun r' _ => r' = .int .u64 r) := by
 refine zm (rs := [.tmp 2]) tok Tryd.func39 rfl Tryd.ntmps39 rfl Tryd.call39 (by simp) ?_
 refine zq [(0, .int .i64 a0)] ⟨rfl, trivial⟩ ?_
 unfold vint_Zig at h
 refine rg tok [0] fun K hK => ?_
 simp only [go_sem, rL, reduceCtorEq]
 refine hK _ _ ?_
 have f1 := zn1 (T := tab) (src := 3) (dst := 85) rfl rfl rfl
 have f2 := zn1 (T := tab) (src := 3) (dst := 85) rfl rfl rfl
 refine rg tok [2] fun K hK => ?_
 simp only [go_sem, rL, rE, reduceCtorEq, f1, zy2, Int.reduceLT]
 refine hK _ _ ?_
 refine zj ?_
 obtain rfl := h
 exact retA
theorem vint_Zig.ev (a0 : Int) (r : Int) (h : vint_Zig a0 = r) (σ : Store) : ACalls Tryd.prog 39 [.int .i64 a0] σ (fun r' σ' => r' = .int .u64 r ∧ σ' = σ) :=
 (vint_Zig.ok a0 r h).c σ
def wire_Put (a0 : List UInt8) (a1 : GRaw) : Option (List UInt8 × Bool) :=
 bnd (wire_Check a1) fun r2 => (if (!r2) = true then some (a0, false) else (vint_Put a0 (IntKind.u64.wrap (IntKind.i64.wrap ((IntKind.i64.wrap (2 * a1.fTag)) + a1.fWire)))).bind fun r5 => (if a1.fWire = 0 then bnd (vint_Zig a1.fN) fun r9 => (vint_Put r5 r9).bind fun r10 => some (r10, true) else (vint_Put r5 (IntKind.u64.wrap (lN a1.fB : Int))).bind fun r13 => (room (lN r13 + lN a1.fB) 1).bind fun _u14 => some (r13 ++ a1.fB, true)))
theorem wire_Put.ok (a0 : List UInt8) (a1 : GRaw) (r : List UInt8 × Bool) (h : wire_Put a0 a1 = some r) : ACalls Tryd.prog 19 [.ds true (fM encB a0) (lN a0) false, .agg (encGRaw a1)] [] (fun r' _ => r' = .tup [.ds true (fM encB r.1) (lN r.1) false, .bool r.2]) := by
 refine zm (rs := [.tmp 4, .tmp 5]) tok Tryd.func19 rfl Tryd.ntmps19 rfl Tryd.call19 (by simp) ?_
 refine zq [(0, .ds true (fM encB a0) (lN a0) false), (1, .agg (encGRaw a1))] ⟨rfl, rfl, trivial⟩ ?_
 unfold wire_Put at h
 refine rg tok [0, 3] fun K hK => ?_
 simp only [go_sem, rL, rE, rA, reduceCtorEq, encGRaw]
 refine hK _ _ ?_
 refine zf fun Z1 hZ1 => ?_
 refine rc [0, 3, 9] fun K hK => ?_
 obtain ⟨r2, hr2, h⟩ := zF h
 refine za tok 1 ?_
 simp only [go_sem, rL, rD, rA, reduceCtorEq]
 refine zh rfl rfl rfl (wire_Check.ev a1 r2 hr2 _) ?_
 rintro _ _ ⟨rfl, rfl⟩
 refine za tok 1 ?_
 simp only [go_sem, rL, rE, reduceCtorEq]
 refine zb ?_
 simp only [ze, upd, rE, reduceIte, zl, zn]
 refine hK _ _ ?_
 refine zr (b := (!r2)) rfl (fun hc3 => ?_) (fun hc3 => ?_)
 · rw [if_pos hc3] at h
   refine rg tok [4, 5] fun K hK => ?_
   simp only [go_sem, rL, rE, reduceCtorEq]
   refine hK _ _ ?_
   refine zj ?_
   obtain rfl := Option.some.inj h
   exact retA
 · rw [if_F hc3] at h
   refine zi ?_
   refine hZ1 _ _ ?_
   refine rc [3, 6] fun K hK => ?_
   have f4 := zn1 (T := tab) (src := 3) (dst := 85) rfl rfl rfl
   obtain ⟨r5, hr5, h⟩ := bind_some h
   refine za tok 8 ?_
   simp only [go_sem, rL, rE, rA, reduceCtorEq, f4]
   refine zh rfl rfl rfl (vint_Put.ev a0 (IntKind.u64.wrap (IntKind.i64.wrap ((IntKind.i64.wrap (2 * a1.fTag)) + a1.fWire))) r5 hr5 _) ?_
   rintro _ _ ⟨rfl, rfl⟩
   refine za tok 1 ?_
   simp only [go_sem, rL, rE, reduceCtorEq]
   refine zb ?_
   simp only [ze, upd, rE, reduceIte, zl, zn]
   refine hK _ _ ?_
   refine zf fun Z6 hZ6 => ?_
   refine rg tok [3, 6, 22] fun K hK => ?_
   simp only [go_sem, rL, rE, rA]
   refine hK _ _ ?_
   refine zz rfl (fun hc7 => ?_) (fun hc7 => ?_)
   · rw [if_pos hc7] at h
     have t8 := eq_true hc7
     refine rc [4, 5] fun K hK => ?_
     obtain ⟨r9, hr9, h⟩ := zF h
     refine za tok 3 ?_
     simp only [go_sem, rL, rE, rA, t8]
     refine zh rfl rfl rfl (vint_Zig.ev a1.fN r9 hr9 _) ?_
     rintro _ _ ⟨rfl, rfl⟩
     obtain ⟨r10, hr10, h⟩ := bind_some h
     refine zh rfl rfl rfl (vint_Put.ev r5 r9 r10 hr10 _) ?_
     rintro _ _ ⟨rfl, rfl⟩
     refine za tok 2 ?_
     simp only [go_sem, rL, rE]
     refine zb ?_
     simp only [ze, upd, rE, reduceIte, zl, zn]
     refine hK _ _ ?_
     refine zj ?_
     obtain rfl := Option.some.inj h
     exact retA
   · rw [if_neg hc7] at h
     have t11 := eq_false hc7
     refine zi ?_
     refine hZ6 _ _ ?_
     have f12 := zn1 (T := tab) (src := 3) (dst := 85) rfl rfl rfl
     obtain ⟨r13, hr13, h⟩ := bind_some h
     obtain ⟨_u14, hu14, h⟩ := bind_some h
     have gu14 := zU hu14
     have f15 := (zv E35.len r13)
     refine rd [4, 5] fun K hK => ?_
     refine DW.start (T := tab) [.any, .any, .at [], .at [], .at [], .eff, .any, .own 1 [], .eff, .any, .any] [(1, [])] ?_
     refine DW.runN tok 5 ?_
     simp only [go_sem, rL, rE, rA, t11, f12, lC, lZ, nZ]
     refine DW.callS rfl rfl rfl (@id (ACalls Tryd.prog 38 [.ds true (fM encB r5) (lN r5) false, .int .u64 (IntKind.u64.wrap (lN a1.fB : Int))] [.cells 0 [.int .i64 a1.fTag, .int .i64 a1.fWire, .int .i64 a1.fN, .str a1.fB]] (fun r' σ' => r' = .os true 1 1 0 0 (lN r13) false ∧ σ' = [.cells 0 [.int .i64 a1.fTag, .int .i64 a1.fWire, .int .i64 a1.fN, .str a1.fB], .cells 0 (fM encB r13)])) ((vint_Put.own r5 (IntKind.u64.wrap (lN a1.fB : Int)) r13 hr13).ownAt0 (by simp only [push_cast]) (by simp only [push_cast]) _)) (zF5 (by simp only [go_sem, rD])) ?_
     refine DW.runN tok 5 ?_
     simp only [go_sem, rL, rD, rE, rA, zM, zH, zJ, true_and, gu14, f15, srcCells_s, zM3, zT3, lC, lZ, nZ]
     refine DW.fin tok (by decide +kernel) rfl ?_
     simp only [ze, upd, rE, reduceIte, zl, zn]
     refine hK _ _ ?_
     refine zL (L := [(4, .os true 1 1 (0 + 1) 0 (lN (r13 ++ a1.fB)) false), (5, .bool true)]) (τ := [.cells 0 [.int .i64 a1.fTag, .int .i64 a1.fWire, .int .i64 a1.fN, .str a1.fB], .cells (0 + 1) (fM encB (r13 ++ a1.fB))]) .s ?_
     refine zj ?_
     obtain rfl := Option.some.inj h
     exact retA
theorem wire_Put.ev (a0 : List UInt8) (a1 : GRaw) (r : List UInt8 × Bool) (h : wire_Put a0 a1 = some r) (σ : Store) : ACalls Tryd.prog 19 [.ds true (fM encB a0) (lN a0) false, .agg (encGRaw a1)] σ (fun r' σ' => r' = .tup [.ds true (fM encB r.1) (lN r.1) false, .bool r.2] ∧ σ' = σ) :=
 (wire_Put.ok a0 a1 r h).c σ
def wire_PutAll.l11 : List GRaw → Int → List UInt8 → Option (List UInt8 × Int)
 | [], x8, x7 => some (x7, 0)
 | y11 :: q11, x8, x7 => (wire_Put x7 y11).bind fun r17 => (if 4096 < (lN r17.1 : Int) then some (([] : List UInt8), 4) else ((wire_PutAll.l11 q11) (x8 + 1) r17.1))
def wire_PutAll.l4 (a0 : List GRaw) : List GRaw → Int → Option (List UInt8 × Int)
 | [], x2 => (wire_PutAll.l11 a0 0 ([] : List UInt8))
 | y4 :: q4, x2 => bnd (wire_Check y4) fun r25 => (if (!r25) = true then some (([] : List UInt8), 1) else ((wire_PutAll.l4 a0 q4) (x2 + 1)))
def wire_PutAll (a0 : List GRaw) : Option (List UInt8 × Int) :=
 (wire_PutAll.l4 a0 a0 0)
theorem wire_PutAll.ok (a0 : List GRaw) (r : List UInt8 × Int) (h : wire_PutAll a0 = some r) : ACalls Tryd.prog 11 [.ds true (fM encGRaw a0) (lN a0) false] [] (fun r' _ => r' = .tup [.ds true (fM encB r.1) (lN r.1) false, .int .i64 r.2]) := by
 refine zm (rs := [.tmp 2, .tmp 3]) tok Tryd.func11 rfl Tryd.ntmps11 rfl Tryd.call11 (by simp) ?_
 refine zq [(0, .ds true (fM encGRaw a0) (lN a0) false)] ⟨rfl, trivial⟩ ?_
 unfold wire_PutAll at h
 refine rg tok [0] fun K hK => ?_
 simp only [go_sem, rL, reduceCtorEq]
 refine hK _ _ ?_
 refine zf fun Z1 hZ1 => ?_
 refine rg tok [0, 9, 10, 11] fun K hK => ?_
 simp only [go_sem, rL, rE, reduceCtorEq]
 refine hK _ _ ?_
 refine zk ?_
 refine zN 0 fun hb4 => ?_
 replace hb4 : lN a0 ≤ 9223372036854775807 := hb4.1
 refine zx (fun m L τ => ∃ (p4 q4 : List GRaw) (x2 : Int), m = lN q4 ∧ L = ([(0, .ds true (fM encGRaw a0) (lN a0) false), (9, .ds true (fM encGRaw a0) (lN a0) false), (10, .int .i64 (lN a0 : Int)), (11, .int .i64 x2)] : List (Nat × AV)) ∧ τ = ([] : Store) ∧ a0 = p4 ++ q4 ∧ x2 = (lN p4 : Int) ∧ wire_PutAll.l4 a0 q4 x2 = some r) _ ⟨[], a0, 0, rfl, rfl, rfl, rfl, rfl, h⟩ .s ?_
 rintro m L τ ⟨p4, q4, x2, rfl, rfl, rfl, hE4, hi4, h⟩
 rcases q4 with _ | ⟨y4, q4⟩
 · have hz4 := zT hE4 hi4
   simp only [wire_PutAll.l4] at h
   refine rg tok [0, 9, 10, 11, 12] fun K hK => ?_
   simp only [go_sem, rL, rE, reduceCtorEq, hz4]
   refine hK _ _ ?_
   refine zf fun Z5 hZ5 => ?_
   refine zt rfl ?_
   refine zy ?_
   refine hZ1 _ _ ?_
   refine rg tok [0, 6] fun K hK => ?_
   simp only [go_sem, rL, rE, reduceCtorEq]
   refine hK _ _ ?_
   refine zf fun Z6 hZ6 => ?_
   refine rg tok [6, 19, 20, 21] fun K hK => ?_
   simp only [go_sem, rL, rE, reduceCtorEq]
   refine hK _ _ ?_
   refine zk ?_
   refine zN 19 fun hb11 => ?_
   replace hb11 : lN a0 ≤ 9223372036854775807 := hb11.1
   refine zx (fun m L τ => ∃ (p11 q11 : List GRaw) (x8 : Int) (x7 : List UInt8), m = lN q11 ∧ L = ([(6, .ds true (fM encB x7) (lN x7) false), (19, .ds true (fM encGRaw a0) (lN a0) false), (20, .int .i64 (lN a0 : Int)), (21, .int .i64 x8)] : List (Nat × AV)) ∧ τ = ([] : Store) ∧ a0 = p11 ++ q11 ∧ x8 = (lN p11 : Int) ∧ wire_PutAll.l11 q11 x8 x7 = some r) _ ⟨[], a0, 0, ([] : List UInt8), rfl, rfl, rfl, rfl, rfl, h⟩ (.t [] true) ?_
   rintro m L τ ⟨p11, q11, x8, x7, rfl, rfl, rfl, hE11, hi11, h⟩
   rcases q11 with _ | ⟨y11, q11⟩
   · have hz11 := zT hE11 hi11
     simp only [wire_PutAll.l11] at h
     refine rg tok [6, 19, 20, 21, 22] fun K hK => ?_
     simp only [go_sem, rL, rE, hz11]
     refine hK _ _ ?_
     refine zf fun Z12 hZ12 => ?_
     refine zt rfl ?_
     refine zy ?_
     refine hZ6 _ _ ?_
     refine rg tok [2, 3] fun K hK => ?_
     simp only [go_sem, rL, rE]
     refine hK _ _ ?_
     refine zj ?_
     obtain rfl := Option.some.inj h
     exact retA
   · obtain ⟨hz11, hw11, hx11, hE'11, hi'11⟩ := zI hE11 hi11 hb11
     simp only [wire_PutAll.l11] at h
     refine rg tok [6, 19, 20, 21, 22] fun K hK => ?_
     simp only [go_sem, rL, rE, hz11]
     refine hK _ _ ?_
     refine zf fun Z13 hZ13 => ?_
     refine zw rfl ?_
     refine zi ?_
     refine hZ13 _ _ ?_
     refine zf fun Z14 hZ14 => ?_
     refine zk ?_
     have f15 := E22.idxS hx11
     have f16 := E22.loadS rfl rfl hx11
     refine rg tok [6, 8, 19, 20, 21] fun K hK => ?_
     simp only [go_sem, rL, rD, rE, rA, encGRaw, f15, f16]
     refine hK _ _ ?_
     refine rc [6, 19, 20, 21] fun K hK => ?_
     obtain ⟨r17, hr17, h⟩ := bind_some h
     refine za tok 2 ?_
     simp only [go_sem, rL, rD, rE, rA]
     refine zh rfl rfl rfl (wire_Put.ev x7 y11 r17 hr17 _) ?_
     rintro _ _ ⟨rfl, rfl⟩
     refine za tok 4 ?_
     simp only [go_sem, rL, rE, rA]
     refine zb ?_
     simp only [ze, upd, rE, reduceIte, zl, zn]
     refine hK _ _ ?_
     refine rg tok [6, 19, 20, 21, 33] fun K hK => ?_
     simp only [go_sem, rL, rE]
     refine hK _ _ ?_
     refine zz rfl (fun hc18 => ?_) (fun hc18 => ?_)
     · rw [if_pos hc18] at h
       have t19 := eq_true hc18
       refine rg tok [2, 3] fun K hK => ?_
       simp only [go_sem, rL, rE, t19]
       refine hK _ _ ?_
       refine zj ?_
       obtain rfl := Option.some.inj h
       exact retA
     · rw [if_neg hc18] at h
       have t20 := eq_false hc18
       refine zi ?_
       refine hZ14 _ _ ?_
       refine rgE tok [6, 19, 20, 21] fun K hK => ?_
       simp only [go_sem, rL, rE, hw11, t20]
       refine hK _ _ ?_
       exact ⟨_, _, _, nS q11.length, ⟨p11 ++ [y11], q11, x8 + 1, r17.1, rfl, rfl, rfl, hE'11, hi'11, h⟩, (.t [] false)⟩
 · obtain ⟨hz4, hw4, hx4, hE'4, hi'4⟩ := zI hE4 hi4 hb4
   simp only [wire_PutAll.l4] at h
   refine rg tok [0, 9, 10, 11, 12] fun K hK => ?_
   simp only [go_sem, rL, rE, reduceCtorEq, hz4]
   refine hK _ _ ?_
   refine zf fun Z21 hZ21 => ?_
   refine zw rfl ?_
   refine zi ?_
   refine hZ21 _ _ ?_
   refine zf fun Z22 hZ22 => ?_
   refine zk ?_
   have f23 := E22.idxS hx4
   have f24 := E22.loadS rfl rfl hx4
   refine rg tok [0, 5, 9, 10, 11] fun K hK => ?_
   simp only [go_sem, rL, rD, rE, rA, reduceCtorEq, encGRaw, f23, f24]
   refine hK _ _ ?_
   refine rc [0, 9, 10, 11, 17] fun K hK => ?_
   obtain ⟨r25, hr25, h⟩ := zF h
   refine za tok 1 ?_
   simp only [go_sem, rL, rD, rE, rA, reduceCtorEq]
   refine zh rfl rfl rfl (wire_Check.ev y4 r25 hr25 _) ?_
   rintro _ _ ⟨rfl, rfl⟩
   refine za tok 1 ?_
   simp only [go_sem, rL, rE, reduceCtorEq]
   refine zb ?_
   simp only [ze, upd, rE, reduceIte, zl, zn]
   refine hK _ _ ?_
   refine zr (b := (!r25)) rfl (fun hc26 => ?_) (fun hc26 => ?_)
   · rw [if_pos hc26] at h
     refine rg tok [2, 3] fun K hK => ?_
     simp only [go_sem, rL, rE, reduceCtorEq]
     refine hK _ _ ?_
     refine zj ?_
     obtain rfl := Option.some.inj h
     exact retA
   · rw [if_F hc26] at h
     refine zi ?_
     refine hZ22 _ _ ?_
     refine rgE tok [0, 9, 10, 11] fun K hK => ?_
     simp only [go_sem, rL, rE, reduceCtorEq, hw4]
     refine hK _ _ ?_
     exact ⟨_, _, _, nS q4.length, ⟨p4 ++ [y4], q4, x2 + 1, rfl, rfl, rfl, hE'4, hi'4, h⟩, (.t [] false)⟩
theorem wire_PutAll.ev (a0 : List GRaw) (r : List UInt8 × Int) (h : wire_PutAll a0 = some r) (σ : Store) : ACalls Tryd.prog 11 [.ds true (fM encGRaw a0) (lN a0) false] σ (fun r' σ' => r' = .tup [.ds true (fM encB r.1) (lN r.1) false, .int .i64 r.2] ∧ σ' = σ) :=
 (wire_PutAll.ok a0 r h).c σ
def encode_bytes.body (self_encode_bytes : GValueNode → Option (List UInt8 × Int)) (self_encode_raw : Int → GValueValue → Option (GRaw × Int)) (self_encode_raws : GValueNode → Option (List GRaw × Int)) (a0 : GValueNode) : Option (List UInt8 × Int) :=
 (self_encode_raws a0).bind fun r1 => (if r1.2 = 0 then (wire_PutAll r1.1).bind fun r6 => some (r6.1, r6.2) else some (([] : List UInt8), r1.2))
theorem encode_bytes.step (self_encode_bytes : GValueNode → Option (List UInt8 × Int)) (self_encode_raw : Int → GValueValue → Option (GRaw × Int)) (self_encode_raws : GValueNode → Option (List GRaw × Int)) (ih_encode_bytes : ∀ (a0 : GValueNode) (r : List UInt8 × Int), self_encode_bytes a0 = some r → ACalls Tryd.prog 127 [.dp (encGValueNode a0) 0] [] (fun r' _ => r' = .tup [.ds true (fM encB r.1) (lN r.1) false, .int .i64 r.2])) (ih_encode_raw : ∀ (a0 : Int) (a1 : GValueValue) (r : GRaw × Int), self_encode_raw a0 a1 = some r → ACalls Tryd.prog 107 [.int .i64 a0, .agg (encGValueValue a1)] [] (fun r' _ => r' = .tup [.agg (encGRaw r.1), .int .i64 r.2])) (ih_encode_raws : ∀ (a0 : GValueNode) (r : List GRaw × Int), self_encode_raws a0 = some r → ACalls Tryd.prog 75 [.dp (encGValueNode a0) 0] [] (fun r' _ => r' = .tup [.ds true (fM encGRaw r.1) (lN r.1) false, .int .i64 r.2])) (a0 : GValueNode) (r : List UInt8 × Int) (h : encode_bytes.body self_encode_bytes self_encode_raw self_encode_raws a0 = some r) : ACalls Tryd.prog 127 [.dp (encGValueNode a0) 0] [] (fun r' _ => r' = .tup [.ds true (fM encB r.1) (lN r.1) false, .int .i64 r.2]) := by
 have ev_encode_bytes := fun a0 r h σ => (ih_encode_bytes a0 r h).c σ
 have ev_encode_raw := fun a0 a1 r h σ => (ih_encode_raw a0 a1 r h).c σ
 have ev_encode_raws := fun a0 r h σ => (ih_encode_raws a0 r h).c σ
 refine zm (rs := [.tmp 2, .tmp 3]) tok Tryd.func127 rfl Tryd.ntmps127 rfl Tryd.call127 (by simp) ?_
 refine zq [(0, .dp (encGValueNode a0) 0)] ⟨rfl, trivial⟩ ?_
 unfold encode_bytes.body at h
 refine rg tok [0] fun K hK => ?_
 simp only [go_sem, rL, reduceCtorEq]
 refine hK _ _ ?_
 refine rc [4, 5] fun K hK => ?_
 obtain ⟨r1, hr1, h⟩ := bind_some h
 refine za tok 1 ?_
 simp only [go_sem, rL]
 refine zh rfl rfl rfl (ev_encode_raws a0 r1 hr1 _) ?_
 rintro _ _ ⟨rfl, rfl⟩
 refine za tok 5 ?_
 simp only [go_sem, rL, rE, rA, reduceCtorEq]
 refine zb ?_
 simp only [ze, upd, rE, reduceIte, zl, zn]
 refine hK _ _ ?_
 refine zf fun Z2 hZ2 => ?_
 refine rg tok [4, 5, 12] fun K hK => ?_
 simp only [go_sem, rL, rE]
 refine hK _ _ ?_
 refine zz rfl (fun hc3 => ?_) (fun hc3 => ?_)
 · rw [if_neg hc3] at h
   have t4 := eq_false hc3
   refine rg tok [2, 3] fun K hK => ?_
   simp only [go_sem, rL, rE, t4]
   refine hK _ _ ?_
   refine zj ?_
   obtain rfl := Option.some.inj h
   exact retA
 · rw [if_pos hc3] at h
   have t5 := eq_true hc3
   refine zi ?_
   refine hZ2 _ _ ?_
   refine rc [2, 3] fun K hK => ?_
   obtain ⟨r6, hr6, h⟩ := bind_some h
   refine za tok 1 ?_
   simp only [go_sem, rL, rE, t5]
   refine zh rfl rfl rfl (wire_PutAll.ev r1.1 r6 hr6 _) ?_
   rintro _ _ ⟨rfl, rfl⟩
   refine za tok 4 ?_
   simp only [go_sem, rL, rE, rA]
   refine zb ?_
   simp only [ze, upd, rE, reduceIte, zl, zn]
   refine hK _ _ ?_
   refine zj ?_
   obtain rfl := Option.some.inj h
   exact retA
def encode_raw.j3 (m1_2 : GRaw) : Option (GRaw × Int) :=
 (if 4096 < (lN m1_2.fB : Int) then some ((⟨0, 0, 0, []⟩ : GRaw), 4) else some (m1_2, 0))
def encode_raw.body (self_encode_bytes : GValueNode → Option (List UInt8 × Int)) (self_encode_raw : Int → GValueValue → Option (GRaw × Int)) (self_encode_raws : GValueNode → Option (List GRaw × Int)) (a0 : Int) (a1 : GValueValue) : Option (GRaw × Int) :=
 (encode_kept a1).bind fun r8 => (match r8 with | .nil => (encode_raw.j3 (⟨a0, 1, 0, []⟩ : GRaw)) | .num n9 => some ((⟨a0, 0, n9, []⟩ : GRaw), 0) | .str s9 => (encode_raw.j3 (⟨a0, 1, 0, s9⟩ : GRaw)) | .node e9 r9 => (self_encode_bytes (⟨e9, r9⟩ : GValueNode)).bind fun r10 => (if r10.2 = 0 then (encode_raw.j3 (⟨a0, 1, 0, r10.1⟩ : GRaw)) else some ((⟨0, 0, 0, []⟩ : GRaw), r10.2)))
theorem encode_raw.step (self_encode_bytes : GValueNode → Option (List UInt8 × Int)) (self_encode_raw : Int → GValueValue → Option (GRaw × Int)) (self_encode_raws : GValueNode → Option (List GRaw × Int)) (ih_encode_bytes : ∀ (a0 : GValueNode) (r : List UInt8 × Int), self_encode_bytes a0 = some r → ACalls Tryd.prog 127 [.dp (encGValueNode a0) 0] [] (fun r' _ => r' = .tup [.ds true (fM encB r.1) (lN r.1) false, .int .i64 r.2])) (ih_encode_raw : ∀ (a0 : Int) (a1 : GValueValue) (r : GRaw × Int), self_encode_raw a0 a1 = some r → ACalls Tryd.prog 107 [.int .i64 a0, .agg (encGValueValue a1)] [] (fun r' _ => r' = .tup [.agg (encGRaw r.1), .int .i64 r.2])) (ih_encode_raws : ∀ (a0 : GValueNode) (r : List GRaw × Int), self_encode_raws a0 = some r → ACalls Tryd.prog 75 [.dp (encGValueNode a0) 0] [] (fun r' _ => r' = .tup [.ds true (fM encGRaw r.1) (lN r.1) false, .int .i64 r.2])) (a0 : Int) (a1 : GValueValue) (r : GRaw × Int) (h : encode_raw.body self_encode_bytes self_encode_raw self_encode_raws a0 a1 = some r) : ACalls Tryd.prog 107 [.int .i64 a0, .agg (encGValueValue a1)] [] (fun r' _ => r' = .tup [.agg (encGRaw r.1), .int .i64 r.2]) := by
 have ev_encode_bytes := fun a0 r h σ => (ih_encode_bytes a0 r h).c σ
 have ev_encode_raw := fun a0 a1 r h σ => (ih_encode_raw a0 a1 r h).c σ
 have ev_encode_raws := fun a0 r h σ => (ih_encode_raws a0 r h).c σ
 refine zm (rs := [.cell 4 33, .tmp 5]) tok Tryd.func107 rfl Tryd.ntmps107 rfl Tryd.call107 (by simp) ?_
 refine zq [(0, .int .i64 a0), (1, .agg (encGValueValue a1))] ⟨rfl, rfl, trivial⟩ ?_
 unfold encode_raw.body at h
 have f1 := zd2 a1
 unfold AV.one at f1
 refine rg tok [0, 3, 4] fun K hK => ?_
 simp only [go_sem, rL, rE, reduceCtorEq, encGValueValue, f1]
 refine hK _ _ ?_
 refine rg tok [0, 3, 4, 6] fun K hK => ?_
 simp only [go_sem, rL, rD, rE, rA, reduceCtorEq]
 refine hK _ _ ?_
 refine zp1 (fun L τ => ∃ (m1_2 : GRaw), L = ([(4, .op 0 0 0), (6, .op 1 0 0)] : List (Nat × AV)) ∧ τ = ([.cells 0 [.int .i64 0, .int .i64 0, .int .i64 0, .str []], .cells 0 [.int .i64 m1_2.fTag, .int .i64 m1_2.fWire, .int .i64 m1_2.fN, .str m1_2.fB]] : Store) ∧ encode_raw.j3 m1_2 = some r) ?_ ?_
 · refine rc [0, 4, 6, 15] fun K hK => ?_
   obtain ⟨r8, hr8, h⟩ := bind_some h
   refine za tok 1 ?_
   simp only [go_sem, rL, rD, rE, reduceCtorEq]
   refine zh rfl rfl rfl (encode_kept.ev a1 r8 hr8 _) ?_
   rintro _ _ ⟨rfl, rfl⟩
   refine zb ?_
   simp only [ze, updO, upd, rE, reduceIte, zl, zn]
   refine hK _ _ ?_
   refine zk ?_
   rcases r8 with _ | n9 | s9 | ⟨e9, r9⟩
   · dsimp only at h
     try simp only [anyV_nil]
     refine rg tok [0, 4, 6, 15, 17, 18] fun K hK => ?_
     simp only [go_sem, rL, rE, rA, reduceCtorEq, zb1, ze1, TypeDesc.isIface]
     refine hK _ _ ?_
     refine zt rfl ?_
     refine rg tok [4, 6, 15, 23, 24] fun K hK => ?_
     simp only [go_sem, rL, rE, rA, reduceCtorEq, zb1, ze1, TypeDesc.isIface]
     refine hK _ _ ?_
     refine zt rfl ?_
     refine rg tok [4, 6, 28, 29] fun K hK => ?_
     simp only [go_sem, rL, rE, rA, zb1, ze1, TypeDesc.isIface]
     refine hK _ _ ?_
     refine zt rfl ?_
     refine zi ?_
     exact ⟨_, _, ⟨(⟨a0, 1, 0, []⟩ : GRaw), rfl, rfl, h⟩, (.t [1, 2] false)⟩
   · dsimp only at h
     try simp only [anyV_num]
     refine rg tok [0, 4, 6, 15, 17, 18] fun K hK => ?_
     simp only [go_sem, rL, rE, rA, reduceCtorEq, zb1, ze1, TypeDesc.isIface]
     refine hK _ _ ?_
     refine zw rfl ?_
     refine rg tok [0, 4, 7] fun K hK => ?_
     simp only [go_sem, rL, rE, reduceCtorEq]
     refine hK _ _ ?_
     refine rg tok [4, 5] fun K hK => ?_
     simp only [go_sem, rL, rD, rE, rA, reduceCtorEq]
     refine hK _ _ ?_
     refine zj ?_
     obtain rfl := Option.some.inj h
     exact retA
   · dsimp only at h
     try simp only [anyV_str]
     refine rg tok [0, 4, 6, 15, 17, 18] fun K hK => ?_
     simp only [go_sem, rL, rE, rA, reduceCtorEq, zb1, ze1, TypeDesc.isIface]
     refine hK _ _ ?_
     refine zt rfl ?_
     refine rg tok [4, 6, 15, 23, 24] fun K hK => ?_
     simp only [go_sem, rL, rE, rA, reduceCtorEq, zb1, ze1, TypeDesc.isIface]
     refine hK _ _ ?_
     refine zw rfl ?_
     refine rg tok [4, 6, 8] fun K hK => ?_
     simp only [go_sem, rL, rE]
     refine hK _ _ ?_
     refine rgE tok [4, 6] fun K hK => ?_
     simp only [go_sem, rL, rD, rE, rA]
     refine hK _ _ ?_
     exact ⟨_, _, ⟨(⟨a0, 1, 0, s9⟩ : GRaw), rfl, rfl, h⟩, (.t [1, 2] false)⟩
   · dsimp only at h
     try simp only [anyV_node]
     refine rg tok [0, 4, 6, 15, 17, 18] fun K hK => ?_
     simp only [go_sem, rL, rE, rA, reduceCtorEq, zb1, ze1, TypeDesc.isIface]
     refine hK _ _ ?_
     refine zt rfl ?_
     refine rg tok [4, 6, 15, 23, 24] fun K hK => ?_
     simp only [go_sem, rL, rE, rA, reduceCtorEq, zb1, ze1, TypeDesc.isIface]
     refine hK _ _ ?_
     refine zt rfl ?_
     refine rg tok [4, 6, 28, 29] fun K hK => ?_
     simp only [go_sem, rL, rE, rA, zb1, ze1, TypeDesc.isIface]
     refine hK _ _ ?_
     refine zw rfl ?_
     refine rg tok [4, 6, 9] fun K hK => ?_
     simp only [go_sem, rL, rE]
     refine hK _ _ ?_
     refine rc [4, 6, 10, 11] fun K hK => ?_
     obtain ⟨r10, hr10, h⟩ := bind_some h
     refine za tok 1 ?_
     simp only [go_sem, rL, rE]
     refine zh rfl rfl rfl (ev_encode_bytes (⟨e9, r9⟩ : GValueNode) r10 hr10 _) ?_
     rintro _ _ ⟨rfl, rfl⟩
     refine za tok 5 ?_
     simp only [go_sem, rL, rE, rA]
     refine zb ?_
     simp only [ze, upd, rE, reduceIte, zl, zn]
     refine hK _ _ ?_
     refine zf fun Z11 hZ11 => ?_
     refine rg tok [4, 6, 10, 11, 36] fun K hK => ?_
     simp only [go_sem, rL, rE]
     refine hK _ _ ?_
     refine zz rfl (fun hc12 => ?_) (fun hc12 => ?_)
     · rw [if_neg hc12] at h
       have t13 := eq_false hc12
       refine rg tok [4, 5] fun K hK => ?_
       simp only [go_sem, rL, rD, rE, rA, t13]
       refine hK _ _ ?_
       refine zj ?_
       obtain rfl := Option.some.inj h
       exact retA
     · rw [if_pos hc12] at h
       have t14 := eq_true hc12
       refine zi ?_
       refine hZ11 _ _ ?_
       have f15 := conv_b2s (T := tab) (src := 35) (dst := 9) rfl rfl rfl rfl rfl rfl r10.1
       refine rgE tok [4, 6] fun K hK => ?_
       simp only [go_sem, rL, rD, rE, rA, t14, f15]
       refine hK _ _ ?_
       exact ⟨_, _, ⟨(⟨a0, 1, 0, r10.1⟩ : GRaw), rfl, rfl, h⟩, (.t [1, 2] false)⟩
 rintro _ _ ⟨m1_2, rfl, rfl, h⟩
 unfold encode_raw.j3 at h
 refine zf fun Z4 hZ4 => ?_
 refine rg tok [4, 6, 45] fun K hK => ?_
 simp only [go_sem, rL, rE, rA]
 refine hK _ _ ?_
 refine zz rfl (fun hc5 => ?_) (fun hc5 => ?_)
 · rw [if_pos hc5] at h
   have t6 := eq_true hc5
   refine rg tok [4, 5] fun K hK => ?_
   simp only [go_sem, rL, rD, rE, rA, t6]
   refine hK _ _ ?_
   refine zj ?_
   obtain rfl := Option.some.inj h
   exact retA
 · rw [if_neg hc5] at h
   have t7 := eq_false hc5
   refine zi ?_
   refine hZ4 _ _ ?_
   refine rg tok [4, 5] fun K hK => ?_
   simp only [go_sem, rL, rD, rE, rA, t7]
   refine hK _ _ ?_
   refine zj ?_
   obtain rfl := Option.some.inj h
   exact retA
def encode_raws.l24 (self_encode_raw : Int → GValueValue → Option (GRaw × Int)) (x6 : Int) (rec10 : Int → List GRaw → Option (List GRaw × Int)) (y10 : Int) : List GValueValue → Int → List GRaw → Option (List GRaw × Int)
 | [], x20, l18 => (rec10 (x6 + 1) l18)
 | y24 :: q24, x20, l18 => (self_encode_raw y10 y24).bind fun r31 => (if r31.2 = 0 then (room (lN l18 + 1) 40).bind fun _u36 => ((encode_raws.l24 self_encode_raw x6 rec10 y10 q24) (x20 + 1) (l18 ++ [r31.1])) else some (([] : List GRaw), r31.2))
def encode_raws.l10 (self_encode_raw : Int → GValueValue → Option (GRaw × Int)) (a0 : GValueNode) : List Int → Int → List GRaw → Option (List GRaw × Int)
 | [], x6, l4 => (wire_Sorted l4).bind fun r12 => some (r12, 0)
 | y10 :: q10, x6, l4 => (value_Node_Get a0 y10).bind fun r17 => (encode_raws.l24 self_encode_raw x6 (encode_raws.l10 self_encode_raw a0 q10) y10 r17 0 l4)
def encode_raws.body (self_encode_bytes : GValueNode → Option (List UInt8 × Int)) (self_encode_raw : Int → GValueValue → Option (GRaw × Int)) (self_encode_raws : GValueNode → Option (List GRaw × Int)) (a0 : GValueNode) : Option (List GRaw × Int) :=
 (value_Node_Rest a0).bind fun r1 => (value_Node_Tags a0).bind fun r3 => (encode_raws.l10 self_encode_raw a0 r3 0 r1)
theorem encode_raws.step (self_encode_bytes : GValueNode → Option (List UInt8 × Int)) (self_encode_raw : Int → GValueValue → Option (GRaw × Int)) (self_encode_raws : GValueNode → Option (List GRaw × Int)) (ih_encode_bytes : ∀ (a0 : GValueNode) (r : List UInt8 × Int), self_encode_bytes a0 = some r → ACalls Tryd.prog 127 [.dp (encGValueNode a0) 0] [] (fun r' _ => r' = .tup [.ds true (fM encB r.1) (lN r.1) false, .int .i64 r.2])) (ih_encode_raw : ∀ (a0 : Int) (a1 : GValueValue) (r : GRaw × Int), self_encode_raw a0 a1 = some r → ACalls Tryd.prog 107 [.int .i64 a0, .agg (encGValueValue a1)] [] (fun r' _ => r' = .tup [.agg (encGRaw r.1), .int .i64 r.2])) (ih_encode_raws : ∀ (a0 : GValueNode) (r : List GRaw × Int), self_encode_raws a0 = some r → ACalls Tryd.prog 75 [.dp (encGValueNode a0) 0] [] (fun r' _ => r' = .tup [.ds true (fM encGRaw r.1) (lN r.1) false, .int .i64 r.2])) (a0 : GValueNode) (r : List GRaw × Int) (h : encode_raws.body self_encode_bytes self_encode_raw self_encode_raws a0 = some r) : ACalls Tryd.prog 75 [.dp (encGValueNode a0) 0] [] (fun r' _ => r' = .tup [.ds true (fM encGRaw r.1) (lN r.1) false, .int .i64 r.2]) := by
 have ev_encode_bytes := fun a0 r h σ => (ih_encode_bytes a0 r h).c σ
 have ev_encode_raw := fun a0 a1 r h σ => (ih_encode_raw a0 a1 r h).c σ
 have ev_encode_raws := fun a0 r h σ => (ih_encode_raws a0 r h).c σ
 refine zm (rs := [.tmp 2, .tmp 3]) tok Tryd.func75 rfl Tryd.ntmps75 rfl Tryd.call75 (by simp) ?_
 refine zq [(0, .dp (encGValueNode a0) 0)] ⟨rfl, trivial⟩ ?_
 unfold encode_raws.body at h
 refine rg tok [0] fun K hK => ?_
 simp only [go_sem, rL, reduceCtorEq]
 refine hK _ _ ?_
 refine rc [0, 4] fun K hK => ?_
 obtain ⟨r1, hr1, h⟩ := bind_some h
 refine za tok 1 ?_
 simp only [go_sem, rL]
 refine zh rfl rfl rfl (@id (ACalls Tryd.prog 104 [.dp (encGValueNode a0) 0] [] (fun r' σ' => r' = .os true 4 0 0 0 (lN r1) false ∧ σ' = [.cells 0 (fM encGRaw r1)])) ((value_Node_Rest.own a0 r1 hr1).ownAt0 (by simp only [push_cast]) (by simp only [push_cast]) _)) ?_
 rintro _ _ ⟨rfl, rfl⟩
 refine za tok 1 ?_
 simp only [go_sem, rL, rE, reduceCtorEq]
 refine zb ?_
 simp only [ze, upd, rE, reduceIte, zl, zn]
 refine hK _ _ ?_
 refine zf fun Z2 hZ2 => ?_
 refine rc [0, 4, 14, 15, 16] fun K hK => ?_
 obtain ⟨r3, hr3, h⟩ := bind_some h
 refine za tok 1 ?_
 simp only [go_sem, rL, reduceCtorEq]
 refine zh rfl rfl rfl (value_Node_Tags.ev a0 r3 hr3 _) ?_
 rintro _ _ ⟨rfl, rfl⟩
 refine za tok 2 ?_
 simp only [go_sem, rL, rE, reduceCtorEq]
 refine zb ?_
 simp only [ze, upd, rE, reduceIte, zl, zn]
 refine hK _ _ ?_
 refine zk ?_
 refine zN 14 fun hb10 => ?_
 replace hb10 : lN r3 ≤ 9223372036854775807 := hb10.1
 refine zx (fun m L τ => ∃ (p10 q10 : List Int) (x6 : Int) (l4 : List GRaw) (v5 : Nat), m = lN q10 ∧ L = ([(0, .dp (encGValueNode a0) 0), (4, .os true 4 0 v5 0 (lN l4) false), (14, .ds true (fM encI r3) (lN r3) false), (15, .int .i64 (lN r3 : Int)), (16, .int .i64 x6)] : List (Nat × AV)) ∧ τ = ([.cells v5 (fM encGRaw l4)] : Store) ∧ r3 = p10 ++ q10 ∧ x6 = (lN p10 : Int) ∧ encode_raws.l10 self_encode_raw a0 q10 x6 l4 = some r) _ ⟨[], r3, 0, r1, 0, rfl, rfl, rfl, rfl, rfl, h⟩ .s ?_
 rintro m L τ ⟨p10, q10, x6, l4, v5, rfl, rfl, rfl, hE10, hi10, h⟩
 rcases q10 with _ | ⟨y10, q10⟩
 · have hz10 := zT hE10 hi10
   simp only [encode_raws.l10] at h
   refine rg tok [0, 4, 14, 15, 16, 17] fun K hK => ?_
   simp only [go_sem, rL, rE, reduceCtorEq, hz10]
   refine hK _ _ ?_
   refine zf fun Z11 hZ11 => ?_
   refine zt rfl ?_
   refine zy ?_
   refine hZ2 _ _ ?_
   refine rc [2, 3] fun K hK => ?_
   obtain ⟨r12, hr12, h⟩ := bind_some h
   refine za tok 1 ?_
   simp only [go_sem, rL, rE, reduceCtorEq]
   refine zn5 (L := [(43, .ds true (fM encGRaw l4) (lN l4) false)]) (τ := []) (.t [] false) ?_
   refine zh rfl rfl rfl (wire_Sorted.ev l4 r12 hr12 _) ?_
   rintro _ _ ⟨rfl, rfl⟩
   refine za tok 2 ?_
   simp only [go_sem, rL, rE]
   refine zb ?_
   simp only [ze, upd, rE, reduceIte, zl, zn]
   refine hK _ _ ?_
   refine zj ?_
   obtain rfl := Option.some.inj h
   exact retA
 · obtain ⟨hz10, hw10, hx10, hE'10, hi'10⟩ := zI hE10 hi10 hb10
   simp only [encode_raws.l10] at h
   refine rg tok [0, 4, 14, 15, 16, 17] fun K hK => ?_
   simp only [go_sem, rL, rE, reduceCtorEq, hz10]
   refine hK _ _ ?_
   refine zf fun Z13 hZ13 => ?_
   refine zw rfl ?_
   refine zi ?_
   refine hZ13 _ _ ?_
   refine zf fun Z14 hZ14 => ?_
   refine zk ?_
   have f15 := E24.idxS hx10
   have f16 := E24.fldS0 (f := 3) rfl rfl hx10
   refine rg tok [0, 4, 6, 14, 15, 16] fun K hK => ?_
   simp only [go_sem, rL, rE, reduceCtorEq, encI, f15, f16]
   refine hK _ _ ?_
   refine rc [0, 4, 6, 14, 15, 16, 22, 23, 24] fun K hK => ?_
   obtain ⟨r17, hr17, h⟩ := bind_some h
   refine za tok 2 ?_
   simp only [go_sem, rL, rE, reduceCtorEq]
   refine zh rfl rfl rfl (value_Node_Get.ev a0 y10 r17 hr17 _) ?_
   rintro _ _ ⟨rfl, rfl⟩
   refine za tok 2 ?_
   simp only [go_sem, rL, rE, reduceCtorEq]
   refine zb ?_
   simp only [ze, upd, rE, reduceIte, zl, zn]
   refine hK _ _ ?_
   refine zk ?_
   refine zN 22 fun hb24 => ?_
   replace hb24 : lN r17 ≤ 9223372036854775807 := hb24.1
   refine zx (fun m L τ => ∃ (p24 q24 : List GValueValue) (x20 : Int) (l18 : List GRaw) (v19 : Nat), m = lN q24 ∧ L = ([(0, .dp (encGValueNode a0) 0), (4, .os true 4 0 v19 0 (lN l18) false), (6, .int .i64 y10), (14, .ds true (fM encI r3) (lN r3) false), (15, .int .i64 (lN r3 : Int)), (16, .int .i64 x6), (22, .ds true (fM encGValueValue r17) (lN r17) false), (23, .int .i64 (lN r17 : Int)), (24, .int .i64 x20)] : List (Nat × AV)) ∧ τ = ([.cells v19 (fM encGRaw l18)] : Store) ∧ r17 = p24 ++ q24 ∧ x20 = (lN p24 : Int) ∧ encode_raws.l24 self_encode_raw x6 (encode_raws.l10 self_encode_raw a0 q10) y10 q24 x20 l18 = some r) _ ⟨[], r17, 0, l4, v5, rfl, rfl, rfl, rfl, rfl, h⟩ .s ?_
   rintro m L τ ⟨p24, q24, x20, l18, v19, rfl, rfl, rfl, hE24, hi24, h⟩
   rcases q24 with _ | ⟨y24, q24⟩
   · have hz24 := zT hE24 hi24
     simp only [encode_raws.l24] at h
     refine rg tok [0, 4, 6, 14, 15, 16, 22, 23, 24, 25] fun K hK => ?_
     simp only [go_sem, rL, rE, reduceCtorEq, hz24]
     refine hK _ _ ?_
     refine zf fun Z25 hZ25 => ?_
     refine zt rfl ?_
     refine zy ?_
     refine hZ14 _ _ ?_
     refine rgE tok [0, 4, 14, 15, 16] fun K hK => ?_
     simp only [go_sem, rL, rE, reduceCtorEq, hw10]
     refine hK _ _ ?_
     exact ⟨_, _, _, nS q10.length, ⟨p10 ++ [y10], q10, x6 + 1, l18, v19, rfl, rfl, rfl, hE'10, hi'10, h⟩, .s⟩
   · obtain ⟨hz24, hw24, hx24, hE'24, hi'24⟩ := zI hE24 hi24 hb24
     simp only [encode_raws.l24] at h
     refine rg tok [0, 4, 6, 14, 15, 16, 22, 23, 24, 25] fun K hK => ?_
     simp only [go_sem, rL, rE, reduceCtorEq, hz24]
     refine hK _ _ ?_
     refine zf fun Z26 hZ26 => ?_
     refine zw rfl ?_
     refine zi ?_
     refine hZ26 _ _ ?_
     refine zf fun Z27 hZ27 => ?_
     refine zk ?_
     have f28 := E155.idxS hx24
     have f29 := E155.loadS rfl rfl hx24
     have f30 := zd2 y24
     unfold AV.one at f30
     refine rg tok [0, 4, 6, 8, 14, 15, 16, 22, 23, 24] fun K hK => ?_
     simp only [go_sem, rL, rD, rE, reduceCtorEq, encGValueValue, f28, f29, f30]
     refine hK _ _ ?_
     refine rc [0, 4, 6, 9, 10, 14, 15, 16, 22, 23, 24] fun K hK => ?_
     obtain ⟨r31, hr31, h⟩ := bind_some h
     refine za tok 2 ?_
     simp only [go_sem, rL, rD, rE, reduceCtorEq]
     refine zh rfl rfl rfl (ev_encode_raw y10 y24 r31 hr31 _) ?_
     rintro _ _ ⟨rfl, rfl⟩
     refine za tok 6 ?_
     simp only [go_sem, rL, rD, rE, rA, reduceCtorEq, encGRaw]
     refine zb ?_
     simp only [ze, upd, rE, reduceIte, zl, zn]
     refine hK _ _ ?_
     refine zf fun Z32 hZ32 => ?_
     refine rg tok [0, 4, 6, 9, 10, 14, 15, 16, 22, 23, 24, 35] fun K hK => ?_
     simp only [go_sem, rL, rE, reduceCtorEq]
     refine hK _ _ ?_
     refine zz rfl (fun hc33 => ?_) (fun hc33 => ?_)
     · rw [if_neg hc33] at h
       have t34 := eq_false hc33
       refine rg tok [2, 3] fun K hK => ?_
       simp only [go_sem, rL, rE, reduceCtorEq, t34]
       refine hK _ _ ?_
       refine zj ?_
       obtain rfl := Option.some.inj h
       exact retA
     · rw [if_pos hc33] at h
       have t35 := eq_true hc33
       refine zi ?_
       refine hZ32 _ _ ?_
       obtain ⟨_u36, hu36, h⟩ := bind_some h
       have gu36 := zU hu36
       have f37 := (zv E22.len l18)
       refine rgE tok [0, 4, 6, 14, 15, 16, 22, 23, 24] fun K hK => ?_
       simp only [go_sem, rL, rD, rE, rA, rM, reduceCtorEq, zC, zD, List.range_succ, List.range_zero, true_and, Nat.reduceMod, zM, zH, zJ, t35, gu36, f37, zc1, List.all_nil, List.all_cons, AV.one, Bool.and_self, nA, lC, lZ, nZ, cA]
       refine hK _ _ ?_
       refine hZ27 _ _ ?_
       refine rgE tok [0, 4, 6, 14, 15, 16, 22, 23, 24] fun K hK => ?_
       simp only [go_sem, rL, rE, reduceCtorEq, hw24]
       refine hK _ _ ?_
       exact ⟨_, _, _, nS q24.length, ⟨p24 ++ [y24], q24, x20 + 1, l18 ++ [r31.1], v19 + 1, rfl, rfl, rfl, hE'24, hi'24, h⟩, (.t [0] false)⟩
mutual
def encode_bytes : Nat → GValueNode → Option (List UInt8 × Int)
 | 0, _ => none
 | k + 1, a0 => encode_bytes.body (encode_bytes k) (encode_raw k) (encode_raws k) a0
def encode_raw : Nat → Int → GValueValue → Option (GRaw × Int)
 | 0, _, _ => none
 | k + 1, a0, a1 => encode_raw.body (encode_bytes k) (encode_raw k) (encode_raws k) a0 a1
def encode_raws : Nat → GValueNode → Option (List GRaw × Int)
 | 0, _ => none
 | k + 1, a0 => encode_raws.body (encode_bytes k) (encode_raw k) (encode_raws k) a0
end
theorem encode_bytes.all (k : Nat) : (∀ (a0 : GValueNode) (r : List UInt8 × Int), encode_bytes k a0 = some r → ACalls Tryd.prog 127 [.dp (encGValueNode a0) 0] [] (fun r' _ => r' = .tup [.ds true (fM encB r.1) (lN r.1) false, .int .i64 r.2])) ∧ (∀ (a0 : Int) (a1 : GValueValue) (r : GRaw × Int), encode_raw k a0 a1 = some r → ACalls Tryd.prog 107 [.int .i64 a0, .agg (encGValueValue a1)] [] (fun r' _ => r' = .tup [.agg (encGRaw r.1), .int .i64 r.2])) ∧ (∀ (a0 : GValueNode) (r : List GRaw × Int), encode_raws k a0 = some r → ACalls Tryd.prog 75 [.dp (encGValueNode a0) 0] [] (fun r' _ => r' = .tup [.ds true (fM encGRaw r.1) (lN r.1) false, .int .i64 r.2])) := by
 induction k with
 | zero => exact ⟨(fun a0 r h => by simp only [encode_bytes] at h; cases h), (fun a0 a1 r h => by simp only [encode_raw] at h; cases h), (fun a0 r h => by simp only [encode_raws] at h; cases h)⟩
 | succ k ih => exact ⟨(fun a0 r h => encode_bytes.step _ _ _ ih.1 ih.2.1 ih.2.2 a0 r (by simpa only [encode_bytes] using h)), (fun a0 a1 r h => encode_raw.step _ _ _ ih.1 ih.2.1 ih.2.2 a0 a1 r (by simpa only [encode_raw] using h)), (fun a0 r h => encode_raws.step _ _ _ ih.1 ih.2.1 ih.2.2 a0 r (by simpa only [encode_raws] using h))⟩
theorem encode_raws.ev (k : Nat) (a0 : GValueNode) (r : List GRaw × Int) (h : encode_raws k a0 = some r) (σ : Store) : ACalls Tryd.prog 75 [.dp (encGValueNode a0) 0] σ (fun r' σ' => r' = .tup [.ds true (fM encGRaw r.1) (lN r.1) false, .int .i64 r.2] ∧ σ' = σ) :=
 ((encode_bytes.all k).2.2 a0 r h).c σ
def encode_Raws (a0 : GTree) : Option (List GRaw × Int) :=
 (value_Of a0).bind fun r1 => (if ((!r1.2) || (!(decide (a0.fKind = 3)))) = true then some (([] : List GRaw), 1) else (value_Value_MustNode r1.1).bind fun r5 => (encode_raws rounds r5).bind fun r6 => some (r6.1, r6.2))
theorem encode_Raws.ok (a0 : GTree) (r : List GRaw × Int) (h : encode_Raws a0 = some r) : ACalls Tryd.prog 50 [.agg (cellsGTree a0)] [] (fun r' _ => r' = .tup [.ds true (fM encGRaw r.1) (lN r.1) false, .int .i64 r.2]) := by
 refine zm (rs := [.tmp 2, .tmp 3]) tok Tryd.func50 rfl Tryd.ntmps50 rfl Tryd.call50 (by simp) ?_
 refine zq [(0, .agg (cellsGTree a0))] ⟨rfl, trivial⟩ ?_
 unfold encode_Raws at h
 refine rg tok [1] fun K hK => ?_
 simp only [go_sem, rL, rE, rA, reduceCtorEq, cellsGTree]
 refine hK _ _ ?_
 refine rc [1, 4, 5] fun K hK => ?_
 obtain ⟨r1, hr1, h⟩ := bind_some h
 refine za tok 1 ?_
 simp only [go_sem, rL, rD, rA]
 refine zh rfl rfl rfl (value_Of.ev a0 r1 hr1 _) ?_
 rintro _ _ ⟨rfl, rfl⟩
 have f2 := zd2 r1.1
 unfold AV.one at f2
 refine za tok 6 ?_
 simp only [go_sem, rL, rD, rE, rA, encGValueValue, f2]
 refine zb ?_
 simp only [ze, upd, rE, reduceIte, zl, zn]
 refine hK _ _ ?_
 refine zf fun Z3 hZ3 => ?_
 refine rc [4, 17] fun K hK => ?_
 refine za tok 3 ?_
 simp only [go_sem, rL, rE]
 refine zo 4 (fun L τ => L = ([(4, .op 1 0 0), (17, .bool ((!r1.2) || (!(decide (a0.fKind = 3)))))] : List (Nat × AV)) ∧ τ = ([.cells 0 [.int .i64 a0.fKind, .int .i64 a0.fN, .str a0.fS, .ds true (fM encGEntry a0.fEntries) (lN a0.fEntries) false, .ds true (fM encGRaw a0.fRest) (lN a0.fRest) false], .cells 0 [ifcV r1.1]] : Store)) ?_ ?_
 · refine zG (b := (!r1.2)) 13 rfl (fun hg13 => ?_) (fun hg13 => ?_)
   · refine za tok 4 ?_
     simp only [go_sem, rL, rE]
     refine zb ⟨rfl, _, _, ⟨rfl, rfl⟩, .b hg13⟩
   · refine za tok 4 ?_
     simp only [go_sem, rL, rE, rA]
     refine zb ⟨rfl, _, _, ⟨rfl, rfl⟩, .b hg13⟩
 rintro _ _ ⟨rfl, rfl⟩
 refine zb ?_
 simp only [ze, rE, reduceIte, zl, zn]
 refine hK _ _ ?_
 refine zr (b := ((!r1.2) || (!(decide (a0.fKind = 3))))) rfl (fun hc4 => ?_) (fun hc4 => ?_)
 · rw [if_pos hc4] at h
   refine rg tok [2, 3] fun K hK => ?_
   simp only [go_sem, rL, rE]
   refine hK _ _ ?_
   refine zj ?_
   obtain rfl := Option.some.inj h
   exact retA
 · rw [if_F hc4] at h
   refine zi ?_
   refine hZ3 _ _ ?_
   refine rc [2, 3] fun K hK => ?_
   obtain ⟨r5, hr5, h⟩ := bind_some h
   refine za tok 1 ?_
   simp only [go_sem, rL, rD, rE]
   refine zh rfl rfl rfl (value_Value_MustNode.ev r1.1 r5 hr5 _) ?_
   rintro _ _ ⟨rfl, rfl⟩
   obtain ⟨r6, hr6, h⟩ := bind_some h
   refine zh rfl rfl rfl (encode_raws.ev rounds r5 r6 hr6 _) ?_
   rintro _ _ ⟨rfl, rfl⟩
   refine za tok 4 ?_
   simp only [go_sem, rL, rE, rA]
   refine zb ?_
   simp only [ze, upd, rE, reduceIte, zl, zn]
   refine hK _ _ ?_
   refine zj ?_
   obtain rfl := Option.some.inj h
   exact retA
theorem encode_Raws.ev (a0 : GTree) (r : List GRaw × Int) (h : encode_Raws a0 = some r) (σ : Store) : ACalls Tryd.prog 50 [.agg (cellsGTree a0)] σ (fun r' σ' => r' = .tup [.ds true (fM encGRaw r.1) (lN r.1) false, .int .i64 r.2] ∧ σ' = σ) :=
 (encode_Raws.ok a0 r h).c σ
def encode_Encode (a0 : GTree) : Option (List UInt8 × Int) :=
 (encode_Raws a0).bind fun r1 => (if r1.2 = 0 then (wire_PutAll r1.1).bind fun r6 => some (r6.1, r6.2) else some (([] : List UInt8), r1.2))
theorem encode_Encode.ok (a0 : GTree) (r : List UInt8 × Int) (h : encode_Encode a0 = some r) : ACalls Tryd.prog 31 [.agg (cellsGTree a0)] [] (fun r' _ => r' = .tup [.ds true (fM encB r.1) (lN r.1) false, .int .i64 r.2]) := by
 refine zm (rs := [.tmp 2, .tmp 3]) tok Tryd.func31 rfl Tryd.ntmps31 rfl Tryd.call31 (by simp) ?_
 refine zq [(0, .agg (cellsGTree a0))] ⟨rfl, trivial⟩ ?_
 unfold encode_Encode at h
 refine rg tok [1] fun K hK => ?_
 simp only [go_sem, rL, rE, rA, reduceCtorEq, cellsGTree]
 refine hK _ _ ?_
 refine rc [4, 5] fun K hK => ?_
 obtain ⟨r1, hr1, h⟩ := bind_some h
 refine za tok 1 ?_
 simp only [go_sem, rL, rD, rA]
 refine zh rfl rfl rfl (encode_Raws.ev a0 r1 hr1 _) ?_
 rintro _ _ ⟨rfl, rfl⟩
 refine za tok 5 ?_
 simp only [go_sem, rL, rE, rA]
 refine zb ?_
 simp only [ze, upd, rE, reduceIte, zl, zn]
 refine hK _ _ ?_
 refine zf fun Z2 hZ2 => ?_
 refine rg tok [4, 5, 12] fun K hK => ?_
 simp only [go_sem, rL, rE]
 refine hK _ _ ?_
 refine zz rfl (fun hc3 => ?_) (fun hc3 => ?_)
 · rw [if_neg hc3] at h
   have t4 := eq_false hc3
   refine rg tok [2, 3] fun K hK => ?_
   simp only [go_sem, rL, rE, t4]
   refine hK _ _ ?_
   refine zj ?_
   obtain rfl := Option.some.inj h
   exact retA
 · rw [if_pos hc3] at h
   have t5 := eq_true hc3
   refine zi ?_
   refine hZ2 _ _ ?_
   refine rc [2, 3] fun K hK => ?_
   obtain ⟨r6, hr6, h⟩ := bind_some h
   refine za tok 1 ?_
   simp only [go_sem, rL, rE, t5]
   refine zh rfl rfl rfl (wire_PutAll.ev r1.1 r6 hr6 _) ?_
   rintro _ _ ⟨rfl, rfl⟩
   refine za tok 4 ?_
   simp only [go_sem, rL, rE, rA]
   refine zb ?_
   simp only [ze, upd, rE, reduceIte, zl, zn]
   refine hK _ _ ?_
   refine zj ?_
   obtain rfl := Option.some.inj h
   exact retA
theorem encode_Encode.ev (a0 : GTree) (r : List UInt8 × Int) (h : encode_Encode a0 = some r) (σ : Store) : ACalls Tryd.prog 31 [.agg (cellsGTree a0)] σ (fun r' σ' => r' = .tup [.ds true (fM encB r.1) (lN r.1) false, .int .i64 r.2] ∧ σ' = σ) :=
 (encode_Encode.ok a0 r h).c σ
def law00_Few.l25 (x2 : Int) (x3 : Int) (rec6 : Int → Int → Option Bool) (y12 : GMessage) : List GField → Int → Option Bool
 | [], x23 => (rec6 (IntKind.i64.wrap (x2 + (lN y12.fName : Int))) (IntKind.i64.wrap (x3 + 1)))
 | y25 :: q25, x23 => (if ((decide (200 < (lN y25.fName : Int))) || (decide (200 < (lN y25.fType.fName : Int)))) = true then some false else ((law00_Few.l25 x2 x3 rec6 y12 q25) (x23 + 1)))
def law00_Few.l60 (x41 : Int) (rec43 : Int → Option Bool) : List GNamed → Int → Option Bool
 | [], x58 => (rec43 (IntKind.i64.wrap (x41 + 1)))
 | y60 :: q60, x58 => (if 200 < (lN y60.fName : Int) then some false else ((law00_Few.l60 x41 rec43 q60) (x58 + 1)))
def law00_Few.l78 (a0 : GSchema) (x2 : Int) : Nat → Int → Option Bool
 | 0, _ => none
 | k78 + 1, x76 => (if ((decide (x76 < (lN a0.fMethods : Int))) && (decide (x76 < 20))) = true then (idxL a0.fMethods x76).bind fun y84 => (if (((decide (200 < (lN y84.fName : Int))) || (decide (200 < (lN y84.fIn : Int)))) || (decide (200 < (lN y84.fOut : Int)))) = true then some false else ((law00_Few.l78 a0 x2 k78) (IntKind.i64.wrap (x76 + 1)))) else some ((((decide (x2 < 3000)) && (decide ((lN a0.fMessages : Int) ≤ 14))) && (decide ((lN a0.fEnums : Int) ≤ 10))) && (decide ((lN a0.fMethods : Int) ≤ 10))))
def law00_Few.l43 (a0 : GSchema) (x2 : Int) : Nat → Int → Option Bool
 | 0, _ => none
 | k43 + 1, x41 => (if ((decide (x41 < (lN a0.fEnums : Int))) && (decide (x41 < 20))) = true then (idxL a0.fEnums x41).bind fun y50 => (if ((decide (200 < (lN y50.fName : Int))) || (decide (24 < (lN y50.fValues : Int)))) = true then some false else (law00_Few.l60 x41 (law00_Few.l43 a0 x2 k43) y50.fValues 0)) else (law00_Few.l78 a0 x2 rounds 0))
def law00_Few.l6 (a0 : GSchema) : Nat → Int → Int → Option Bool
 | 0, _, _ => none
 | k6 + 1, x2, x3 => (if ((decide (x3 < (lN a0.fMessages : Int))) && (decide (x3 < 20))) = true then (idxL a0.fMessages x3).bind fun y12 => (if ((decide (20 < (lN y12.fFields : Int))) || (decide (40 < (lN y12.fReserved : Int)))) = true then some false else (law00_Few.l25 x2 x3 (law00_Few.l6 a0 k6) y12 y12.fFields 0)) else (law00_Few.l43 a0 x2 rounds 0))
def law00_Few (a0 : GSchema) : Option Bool :=
 (law00_Few.l6 a0 rounds (lN a0.fName : Int) 0)
theorem law00_Few.ok (a0 : GSchema) (r : Bool) (h : law00_Few a0 = some r) : ACalls Tryd.prog 22 [.agg (encGSchema a0)] [] (fun r' _ => r' = .bool r) := by
 refine zm (rs := [.tmp 2]) tok Tryd.func22 rfl Tryd.ntmps22 rfl Tryd.call22 (by simp) ?_
 refine zq [(0, .agg (encGSchema a0))] ⟨rfl, trivial⟩ ?_
 unfold law00_Few at h
 refine rg tok [1] fun K hK => ?_
 simp only [go_sem, rL, rE, rA, reduceCtorEq, encGSchema]
 refine hK _ _ ?_
 refine rg tok [1, 3] fun K hK => ?_
 simp only [go_sem, rL, rE, rA]
 refine hK _ _ ?_
 refine zf fun Z1 hZ1 => ?_
 refine rg tok [1, 3, 4] fun K hK => ?_
 simp only [go_sem, rL, rE]
 refine hK _ _ ?_
 refine zk ?_
 refine zx (fun m L τ => ∃ (k6 : Nat) (x2 : Int) (x3 : Int), m = 0 + k6 ∧ L = ([(1, .op 0 0 0), (3, .int .i64 x2), (4, .int .i64 x3)] : List (Nat × AV)) ∧ τ = ([.cells 0 [.str a0.fName, .ds true (fM encGMessage a0.fMessages) (lN a0.fMessages) false, .ds true (fM encGEnumeration a0.fEnums) (lN a0.fEnums) false, .ds true (fM encGMethod a0.fMethods) (lN a0.fMethods) false]] : Store) ∧ law00_Few.l6 a0 k6 x2 x3 = some r) _ ⟨rounds, (lN a0.fName : Int), 0, rfl, rfl, rfl, h⟩ .s ?_
 rintro m L τ ⟨k6, x2, x3, rfl, rfl, rfl, h⟩
 rcases k6 with _ | k6
 · cases h
 · simp only [law00_Few.l6] at h
   refine zf fun Z7 hZ7 => ?_
   refine rc [1, 3, 4, 21] fun K hK => ?_
   refine za tok 6 ?_
   simp only [go_sem, rL, rE, rA]
   refine zo 3 (fun L τ => L = ([(1, .op 0 0 0), (3, .int .i64 x2), (4, .int .i64 x3), (21, .bool ((decide (x3 < (lN a0.fMessages : Int))) && (decide (x3 < 20))))] : List (Nat × AV)) ∧ τ = ([.cells 0 [.str a0.fName, .ds true (fM encGMessage a0.fMessages) (lN a0.fMessages) false, .ds true (fM encGEnumeration a0.fEnums) (lN a0.fEnums) false, .ds true (fM encGMethod a0.fMethods) (lN a0.fMethods) false]] : Store)) ?_ ?_
   · refine zV 18 rfl (fun hg18 => ?_) (fun hg18 => ?_)
     · have t8 := eq_true hg18
       refine za tok 3 ?_
       simp only [go_sem, rL, rE]
       refine zb ⟨rfl, _, _, ⟨rfl, rfl⟩, .p t8⟩
     · have t9 := eq_false hg18
       refine za tok 3 ?_
       simp only [go_sem, rL, rE]
       refine zb ⟨rfl, _, _, ⟨rfl, rfl⟩, .p t9⟩
   rintro _ _ ⟨rfl, rfl⟩
   refine zb ?_
   simp only [ze, rE, reduceIte, zl, zn]
   refine hK _ _ ?_
   refine zr (b := ((decide (x3 < (lN a0.fMessages : Int))) && (decide (x3 < 20)))) rfl (fun hc10 => ?_) (fun hc10 => ?_)
   · rw [if_pos hc10] at h
     refine zi ?_
     refine hZ7 _ _ ?_
     refine zf fun Z11 hZ11 => ?_
     refine zk ?_
     obtain ⟨y12, hy12, h⟩ := bind_some h
     have f13 := E27.idxS hy12
     have f14 := E27.fldS0 (f := 9) rfl rfl hy12
     refine rg tok [1, 3, 4] fun K hK => ?_
     simp only [go_sem, rL, rE, rA, encGMessage, f13, f14]
     refine hK _ _ ?_
     refine zf fun Z15 hZ15 => ?_
     refine rc [1, 3, 4, 50] fun K hK => ?_
     have f16 := E27.idxS hy12
     have f17 := E27.fldS (f := 23) rfl rfl hy12 (o := 1) (by decide)
     refine za tok 9 ?_
     simp only [go_sem, rL, rE, rA, encGMessage, f16, f17]
     refine zo 9 (fun L τ => L = ([(1, .op 0 0 0), (3, .int .i64 (IntKind.i64.wrap (x2 + (lN y12.fName : Int)))), (4, .int .i64 x3), (50, .bool ((decide (20 < (lN y12.fFields : Int))) || (decide (40 < (lN y12.fReserved : Int)))))] : List (Nat × AV)) ∧ τ = ([.cells 0 [.str a0.fName, .ds true (fM encGMessage a0.fMessages) (lN a0.fMessages) false, .ds true (fM encGEnumeration a0.fEnums) (lN a0.fEnums) false, .ds true (fM encGMethod a0.fMethods) (lN a0.fMethods) false]] : Store)) ?_ ?_
     · refine zV 41 rfl (fun hg41 => ?_) (fun hg41 => ?_)
       · have t18 := eq_true hg41
         refine za tok 9 ?_
         simp only [go_sem, rL, rE]
         refine zb ⟨rfl, _, _, ⟨rfl, rfl⟩, .p t18⟩
       · have t19 := eq_false hg41
         have f20 := E27.idxS hy12
         have f21 := E27.fldS (f := 24) rfl rfl hy12 (o := 2) (by decide)
         refine za tok 9 ?_
         simp only [go_sem, rL, rE, rA, encGMessage, f20, f21]
         refine zb ⟨rfl, _, _, ⟨rfl, rfl⟩, .p t19⟩
     rintro _ _ ⟨rfl, rfl⟩
     refine zb ?_
     simp only [ze, rE, reduceIte, zl, zn]
     refine hK _ _ ?_
     refine zr (b := ((decide (20 < (lN y12.fFields : Int))) || (decide (40 < (lN y12.fReserved : Int))))) rfl (fun hc22 => ?_) (fun hc22 => ?_)
     · rw [if_pos hc22] at h
       refine rg tok [2] fun K hK => ?_
       simp only [go_sem, rL, rE]
       refine hK _ _ ?_
       refine zj ?_
       obtain rfl := Option.some.inj h
       exact retA
     · rw [if_F hc22] at h
       refine zi ?_
       refine hZ15 _ _ ?_
       refine rg tok [1, 3, 4, 5] fun K hK => ?_
       simp only [go_sem, rL, rE]
       refine hK _ _ ?_
       refine zk ?_
       refine awp_deepS 0 rfl fun hb25 => ?_
       replace hb25 := deepL_idx hb25.2.1.2 hy12
       replace hb25 : lN y12.fFields ≤ 9223372036854775807 := hb25.2.1.1
       refine zx (fun m L τ => ∃ (p25 q25 : List GField) (x23 : Int), m = lN q25 ∧ L = ([(1, .op 0 0 0), (3, .int .i64 (IntKind.i64.wrap (x2 + (lN y12.fName : Int)))), (4, .int .i64 x3), (5, .int .i64 x23)] : List (Nat × AV)) ∧ τ = ([.cells 0 [.str a0.fName, .ds true (fM encGMessage a0.fMessages) (lN a0.fMessages) false, .ds true (fM encGEnumeration a0.fEnums) (lN a0.fEnums) false, .ds true (fM encGMethod a0.fMethods) (lN a0.fMethods) false]] : Store) ∧ y12.fFields = p25 ++ q25 ∧ x23 = (lN p25 : Int) ∧ law00_Few.l25 x2 x3 (law00_Few.l6 a0 k6) y12 q25 x23 = some r) _ ⟨[], y12.fFields, 0, rfl, rfl, rfl, rfl, rfl, h⟩ .s ?_
       rintro m L τ ⟨p25, q25, x23, rfl, rfl, rfl, hE25, hi25, h⟩
       rcases q25 with _ | ⟨y25, q25⟩
       · have hz25 := zT hE25 hi25
         simp only [law00_Few.l25] at h
         refine zf fun Z26 hZ26 => ?_
         have f27 := E27.idxS hy12
         have f28 := E27.fldS (f := 23) rfl rfl hy12 (o := 1) (by decide)
         refine rg tok [1, 3, 4, 5, 59] fun K hK => ?_
         simp only [go_sem, rL, rE, rA, encGMessage, hz25, f27, f28]
         refine hK _ _ ?_
         refine zt rfl ?_
         refine zy ?_
         refine hZ11 _ _ ?_
         refine rgE tok [1, 3, 4] fun K hK => ?_
         simp only [go_sem, rL, rE]
         refine hK _ _ ?_
         exact ⟨_, _, _, nS (0 + k6), ⟨k6, IntKind.i64.wrap (x2 + (lN y12.fName : Int)), IntKind.i64.wrap (x3 + 1), rfl, rfl, rfl, h⟩, .s⟩
       · obtain ⟨hz25, hw25, hx25, hE'25, hi'25⟩ := zI hE25 hi25 hb25
         simp only [law00_Few.l25] at h
         refine zf fun Z29 hZ29 => ?_
         have f30 := E27.idxS hy12
         have f31 := E27.fldS (f := 23) rfl rfl hy12 (o := 1) (by decide)
         refine rg tok [1, 3, 4, 5, 59] fun K hK => ?_
         simp only [go_sem, rL, rE, rA, encGMessage, hz25, f30, f31]
         refine hK _ _ ?_
         refine zw rfl ?_
         refine zi ?_
         refine hZ29 _ _ ?_
         refine zf fun Z32 hZ32 => ?_
         refine zk ?_
         have f33 := E27.idxS hy12
         have f34 := E27.fldS (f := 23) rfl rfl hy12 (o := 1) (by decide)
         have f35 := E23.idxS hx25
         have f36 := E23.loadS rfl rfl hx25
         refine rg tok [1, 3, 4, 5, 6] fun K hK => ?_
         simp only [go_sem, rL, rD, rE, rA, encGField, encGMessage, f33, f34, f35, f36]
         refine hK _ _ ?_
         refine rc [1, 3, 4, 5, 81] fun K hK => ?_
         refine za tok 5 ?_
         simp only [go_sem, rL, rE, rA]
         refine zo 6 (fun L τ => L = ([(1, .op 0 0 0), (3, .int .i64 (IntKind.i64.wrap (x2 + (lN y12.fName : Int)))), (4, .int .i64 x3), (5, .int .i64 x23), (81, .bool ((decide (200 < (lN y25.fName : Int))) || (decide (200 < (lN y25.fType.fName : Int)))))] : List (Nat × AV)) ∧ τ = ([.cells 0 [.str a0.fName, .ds true (fM encGMessage a0.fMessages) (lN a0.fMessages) false, .ds true (fM encGEnumeration a0.fEnums) (lN a0.fEnums) false, .ds true (fM encGMethod a0.fMethods) (lN a0.fMethods) false], .cells 0 [.str y25.fName, .int .i64 y25.fTag, .int .i64 y25.fLabel, .int .i64 y25.fType.fKind, .str y25.fType.fName]] : Store)) ?_ ?_
         · refine zV 75 rfl (fun hg75 => ?_) (fun hg75 => ?_)
           · have t37 := eq_true hg75
             refine za tok 6 ?_
             simp only [go_sem, rL, rE]
             refine zb ⟨rfl, _, _, ⟨rfl, rfl⟩, .p t37⟩
           · have t38 := eq_false hg75
             refine za tok 6 ?_
             simp only [go_sem, rL, rE, rA]
             refine zb ⟨rfl, _, _, ⟨rfl, rfl⟩, .p t38⟩
         rintro _ _ ⟨rfl, rfl⟩
         refine zb ?_
         simp only [ze, rE, reduceIte, zl, zn]
         refine hK _ _ ?_
         refine zr (b := ((decide (200 < (lN y25.fName : Int))) || (decide (200 < (lN y25.fType.fName : Int))))) rfl (fun hc39 => ?_) (fun hc39 => ?_)
         · rw [if_pos hc39] at h
           refine rg tok [2] fun K hK => ?_
           simp only [go_sem, rL, rE]
           refine hK _ _ ?_
           refine zj ?_
           obtain rfl := Option.some.inj h
           exact retA
         · rw [if_F hc39] at h
           refine zi ?_
           refine hZ32 _ _ ?_
           refine rgE tok [1, 3, 4, 5] fun K hK => ?_
           simp only [go_sem, rL, rE, hw25]
           refine hK _ _ ?_
           exact ⟨_, _, _, nS q25.length, ⟨p25 ++ [y25], q25, x23 + 1, rfl, rfl, rfl, hE'25, hi'25, h⟩, (.t [0] false)⟩
   · rw [if_F hc10] at h
     refine zy ?_
     refine hZ1 _ _ ?_
     refine zf fun Z40 hZ40 => ?_
     refine rg tok [1, 3, 7] fun K hK => ?_
     simp only [go_sem, rL, rE]
     refine hK _ _ ?_
     refine zk ?_
     refine zx (fun m L τ => ∃ (k43 : Nat) (x41 : Int), m = 0 + k43 ∧ L = ([(1, .op 0 0 0), (3, .int .i64 x2), (7, .int .i64 x41)] : List (Nat × AV)) ∧ τ = ([.cells 0 [.str a0.fName, .ds true (fM encGMessage a0.fMessages) (lN a0.fMessages) false, .ds true (fM encGEnumeration a0.fEnums) (lN a0.fEnums) false, .ds true (fM encGMethod a0.fMethods) (lN a0.fMethods) false]] : Store) ∧ law00_Few.l43 a0 x2 k43 x41 = some r) _ ⟨rounds, 0, rfl, rfl, rfl, h⟩ .s ?_
     rintro m L τ ⟨k43, x41, rfl, rfl, rfl, h⟩
     rcases k43 with _ | k43
     · cases h
     · simp only [law00_Few.l43] at h
       refine zf fun Z44 hZ44 => ?_
       refine rc [1, 3, 7, 90] fun K hK => ?_
       refine za tok 6 ?_
       simp only [go_sem, rL, rE, rA]
       refine zo 3 (fun L τ => L = ([(1, .op 0 0 0), (3, .int .i64 x2), (7, .int .i64 x41), (90, .bool ((decide (x41 < (lN a0.fEnums : Int))) && (decide (x41 < 20))))] : List (Nat × AV)) ∧ τ = ([.cells 0 [.str a0.fName, .ds true (fM encGMessage a0.fMessages) (lN a0.fMessages) false, .ds true (fM encGEnumeration a0.fEnums) (lN a0.fEnums) false, .ds true (fM encGMethod a0.fMethods) (lN a0.fMethods) false]] : Store)) ?_ ?_
       · refine zV 87 rfl (fun hg87 => ?_) (fun hg87 => ?_)
         · have t45 := eq_true hg87
           refine za tok 3 ?_
           simp only [go_sem, rL, rE]
           refine zb ⟨rfl, _, _, ⟨rfl, rfl⟩, .p t45⟩
         · have t46 := eq_false hg87
           refine za tok 3 ?_
           simp only [go_sem, rL, rE]
           refine zb ⟨rfl, _, _, ⟨rfl, rfl⟩, .p t46⟩
       rintro _ _ ⟨rfl, rfl⟩
       refine zb ?_
       simp only [ze, rE, reduceIte, zl, zn]
       refine hK _ _ ?_
       refine zr (b := ((decide (x41 < (lN a0.fEnums : Int))) && (decide (x41 < 20)))) rfl (fun hc47 => ?_) (fun hc47 => ?_)
       · rw [if_pos hc47] at h
         refine zi ?_
         refine hZ44 _ _ ?_
         refine zf fun Z48 hZ48 => ?_
         refine zk ?_
         refine zf fun Z49 hZ49 => ?_
         refine rc [1, 3, 7, 110] fun K hK => ?_
         obtain ⟨y50, hy50, h⟩ := bind_some h
         have f51 := E28.idxS hy50
         have f52 := E28.fldS0 (f := 9) rfl rfl hy50
         refine za tok 9 ?_
         simp only [go_sem, rL, rE, rA, encGEnumeration, f51, f52]
         refine zo 9 (fun L τ => L = ([(1, .op 0 0 0), (3, .int .i64 x2), (7, .int .i64 x41), (110, .bool ((decide (200 < (lN y50.fName : Int))) || (decide (24 < (lN y50.fValues : Int)))))] : List (Nat × AV)) ∧ τ = ([.cells 0 [.str a0.fName, .ds true (fM encGMessage a0.fMessages) (lN a0.fMessages) false, .ds true (fM encGEnumeration a0.fEnums) (lN a0.fEnums) false, .ds true (fM encGMethod a0.fMethods) (lN a0.fMethods) false]] : Store)) ?_ ?_
         · refine zV 101 rfl (fun hg101 => ?_) (fun hg101 => ?_)
           · have t53 := eq_true hg101
             refine za tok 9 ?_
             simp only [go_sem, rL, rE]
             refine zb ⟨rfl, _, _, ⟨rfl, rfl⟩, .p t53⟩
           · have t54 := eq_false hg101
             have f55 := E28.idxS hy50
             have f56 := E28.fldS (f := 88) rfl rfl hy50 (o := 1) (by decide)
             refine za tok 9 ?_
             simp only [go_sem, rL, rE, rA, encGEnumeration, f55, f56]
             refine zb ⟨rfl, _, _, ⟨rfl, rfl⟩, .p t54⟩
         rintro _ _ ⟨rfl, rfl⟩
         refine zb ?_
         simp only [ze, rE, reduceIte, zl, zn]
         refine hK _ _ ?_
         refine zr (b := ((decide (200 < (lN y50.fName : Int))) || (decide (24 < (lN y50.fValues : Int))))) rfl (fun hc57 => ?_) (fun hc57 => ?_)
         · rw [if_pos hc57] at h
           refine rg tok [2] fun K hK => ?_
           simp only [go_sem, rL, rE]
           refine hK _ _ ?_
           refine zj ?_
           obtain rfl := Option.some.inj h
           exact retA
         · rw [if_F hc57] at h
           refine zi ?_
           refine hZ49 _ _ ?_
           refine rg tok [1, 3, 7, 8] fun K hK => ?_
           simp only [go_sem, rL, rE]
           refine hK _ _ ?_
           refine zk ?_
           refine awp_deepS 0 rfl fun hb60 => ?_
           replace hb60 := deepL_idx hb60.2.2.1.2 hy50
           replace hb60 : lN y50.fValues ≤ 9223372036854775807 := hb60.2.1.1
           refine zx (fun m L τ => ∃ (p60 q60 : List GNamed) (x58 : Int), m = lN q60 ∧ L = ([(1, .op 0 0 0), (3, .int .i64 x2), (7, .int .i64 x41), (8, .int .i64 x58)] : List (Nat × AV)) ∧ τ = ([.cells 0 [.str a0.fName, .ds true (fM encGMessage a0.fMessages) (lN a0.fMessages) false, .ds true (fM encGEnumeration a0.fEnums) (lN a0.fEnums) false, .ds true (fM encGMethod a0.fMethods) (lN a0.fMethods) false]] : Store) ∧ y50.fValues = p60 ++ q60 ∧ x58 = (lN p60 : Int) ∧ law00_Few.l60 x41 (law00_Few.l43 a0 x2 k43) q60 x58 = some r) _ ⟨[], y50.fValues, 0, rfl, rfl, rfl, rfl, rfl, h⟩ .s ?_
           rintro m L τ ⟨p60, q60, x58, rfl, rfl, rfl, hE60, hi60, h⟩
           rcases q60 with _ | ⟨y60, q60⟩
           · have hz60 := zT hE60 hi60
             simp only [law00_Few.l60] at h
             refine zf fun Z61 hZ61 => ?_
             have f62 := E28.idxS hy50
             have f63 := E28.fldS (f := 88) rfl rfl hy50 (o := 1) (by decide)
             refine rg tok [1, 3, 7, 8, 119] fun K hK => ?_
             simp only [go_sem, rL, rE, rA, encGEnumeration, hz60, f62, f63]
             refine hK _ _ ?_
             refine zt rfl ?_
             refine zy ?_
             refine hZ48 _ _ ?_
             refine rgE tok [1, 3, 7] fun K hK => ?_
             simp only [go_sem, rL, rE]
             refine hK _ _ ?_
             exact ⟨_, _, _, nS (0 + k43), ⟨k43, IntKind.i64.wrap (x41 + 1), rfl, rfl, rfl, h⟩, .s⟩
           · obtain ⟨hz60, hw60, hx60, hE'60, hi'60⟩ := zI hE60 hi60 hb60
             simp only [law00_Few.l60] at h
             refine zf fun Z64 hZ64 => ?_
             have f65 := E28.idxS hy50
             have f66 := E28.fldS (f := 88) rfl rfl hy50 (o := 1) (by decide)
             refine rg tok [1, 3, 7, 8, 119] fun K hK => ?_
             simp only [go_sem, rL, rE, rA, encGEnumeration, hz60, f65, f66]
             refine hK _ _ ?_
             refine zw rfl ?_
             refine zi ?_
             refine hZ64 _ _ ?_
             refine zf fun Z67 hZ67 => ?_
             refine zk ?_
             have f68 := E28.idxS hy50
             have f69 := E28.fldS (f := 88) rfl rfl hy50 (o := 1) (by decide)
             have f70 := E88.idxS hx60
             have f71 := E88.fldS0 (f := 9) rfl rfl hx60
             refine rg tok [1, 3, 7, 8, 133] fun K hK => ?_
             simp only [go_sem, rL, rE, rA, encGEnumeration, encGNamed, f68, f69, f70, f71]
             refine hK _ _ ?_
             refine zz rfl (fun hc72 => ?_) (fun hc72 => ?_)
             · rw [if_pos hc72] at h
               have t73 := eq_true hc72
               refine rg tok [2] fun K hK => ?_
               simp only [go_sem, rL, rE, t73]
               refine hK _ _ ?_
               refine zj ?_
               obtain rfl := Option.some.inj h
               exact retA
             · rw [if_neg hc72] at h
               have t74 := eq_false hc72
               refine zi ?_
               refine hZ67 _ _ ?_
               refine rgE tok [1, 3, 7, 8] fun K hK => ?_
               simp only [go_sem, rL, rE, hw60, t74]
               refine hK _ _ ?_
               exact ⟨_, _, _, nS q60.length, ⟨p60 ++ [y60], q60, x58 + 1, rfl, rfl, rfl, hE'60, hi'60, h⟩, .s⟩
       · rw [if_F hc47] at h
         refine zy ?_
         refine hZ40 _ _ ?_
         refine zf fun Z75 hZ75 => ?_
         refine rg tok [1, 3, 9] fun K hK => ?_
         simp only [go_sem, rL, rE]
         refine hK _ _ ?_
         refine zk ?_
         refine zx (fun m L τ => ∃ (k78 : Nat) (x76 : Int), m = 0 + k78 ∧ L = ([(1, .op 0 0 0), (3, .int .i64 x2), (9, .int .i64 x76)] : List (Nat × AV)) ∧ τ = ([.cells 0 [.str a0.fName, .ds true (fM encGMessage a0.fMessages) (lN a0.fMessages) false, .ds true (fM encGEnumeration a0.fEnums) (lN a0.fEnums) false, .ds true (fM encGMethod a0.fMethods) (lN a0.fMethods) false]] : Store) ∧ law00_Few.l78 a0 x2 k78 x76 = some r) _ ⟨rounds, 0, rfl, rfl, rfl, h⟩ .s ?_
         rintro m L τ ⟨k78, x76, rfl, rfl, rfl, h⟩
         rcases k78 with _ | k78
         · cases h
         · simp only [law00_Few.l78] at h
           refine zf fun Z79 hZ79 => ?_
           refine rc [1, 3, 9, 142] fun K hK => ?_
           refine za tok 6 ?_
           simp only [go_sem, rL, rE, rA]
           refine zo 3 (fun L τ => L = ([(1, .op 0 0 0), (3, .int .i64 x2), (9, .int .i64 x76), (142, .bool ((decide (x76 < (lN a0.fMethods : Int))) && (decide (x76 < 20))))] : List (Nat × AV)) ∧ τ = ([.cells 0 [.str a0.fName, .ds true (fM encGMessage a0.fMessages) (lN a0.fMessages) false, .ds true (fM encGEnumeration a0.fEnums) (lN a0.fEnums) false, .ds true (fM encGMethod a0.fMethods) (lN a0.fMethods) false]] : Store)) ?_ ?_
           · refine zV 139 rfl (fun hg139 => ?_) (fun hg139 => ?_)
             · have t80 := eq_true hg139
               refine za tok 3 ?_
               simp only [go_sem, rL, rE]
               refine zb ⟨rfl, _, _, ⟨rfl, rfl⟩, .p t80⟩
             · have t81 := eq_false hg139
               refine za tok 3 ?_
               simp only [go_sem, rL, rE]
               refine zb ⟨rfl, _, _, ⟨rfl, rfl⟩, .p t81⟩
           rintro _ _ ⟨rfl, rfl⟩
           refine zb ?_
           simp only [ze, rE, reduceIte, zl, zn]
           refine hK _ _ ?_
           refine zr (b := ((decide (x76 < (lN a0.fMethods : Int))) && (decide (x76 < 20)))) rfl (fun hc82 => ?_) (fun hc82 => ?_)
           · rw [if_pos hc82] at h
             refine zi ?_
             refine hZ79 _ _ ?_
             refine zf fun Z83 hZ83 => ?_
             refine zk ?_
             refine rc [1, 3, 9, 172] fun K hK => ?_
             obtain ⟨y84, hy84, h⟩ := bind_some h
             have f85 := E29.idxS hy84
             have f86 := E29.fldS0 (f := 9) rfl rfl hy84
             refine za tok 9 ?_
             simp only [go_sem, rL, rE, rA, encGMethod, f85, f86]
             refine zo 9 (fun L τ => L = ([(1, .op 0 0 0), (3, .int .i64 x2), (9, .int .i64 x76), (162, .bool ((decide (200 < (lN y84.fName : Int))) || (decide (200 < (lN y84.fIn : Int)))))] : List (Nat × AV)) ∧ τ = ([.cells 0 [.str a0.fName, .ds true (fM encGMessage a0.fMessages) (lN a0.fMessages) false, .ds true (fM encGEnumeration a0.fEnums) (lN a0.fEnums) false, .ds true (fM encGMethod a0.fMethods) (lN a0.fMethods) false]] : Store)) ?_ ?_
             · refine zV 153 rfl (fun hg153 => ?_) (fun hg153 => ?_)
               · have t87 := eq_true hg153
                 refine za tok 9 ?_
                 simp only [go_sem, rL, rE]
                 refine zb ⟨rfl, _, _, ⟨rfl, rfl⟩, .p t87⟩
               · have t88 := eq_false hg153
                 have f89 := E29.idxS hy84
                 have f90 := E29.fldS (f := 9) rfl rfl hy84 (o := 1) (by decide)
                 refine za tok 9 ?_
                 simp only [go_sem, rL, rE, rA, encGMethod, f89, f90]
                 refine zb ⟨rfl, _, _, ⟨rfl, rfl⟩, .p t88⟩
             rintro _ _ ⟨rfl, rfl⟩
             refine za tok 1 ?_
             simp only [go_sem, rL, rE]
             refine zo 9 (fun L τ => L = ([(1, .op 0 0 0), (3, .int .i64 x2), (9, .int .i64 x76), (172, .bool (((decide (200 < (lN y84.fName : Int))) || (decide (200 < (lN y84.fIn : Int)))) || (decide (200 < (lN y84.fOut : Int)))))] : List (Nat × AV)) ∧ τ = ([.cells 0 [.str a0.fName, .ds true (fM encGMessage a0.fMessages) (lN a0.fMessages) false, .ds true (fM encGEnumeration a0.fEnums) (lN a0.fEnums) false, .ds true (fM encGMethod a0.fMethods) (lN a0.fMethods) false]] : Store)) ?_ ?_
             · refine zG (b := ((decide (200 < (lN y84.fName : Int))) || (decide (200 < (lN y84.fIn : Int))))) 163 rfl (fun hg163 => ?_) (fun hg163 => ?_)
               · refine za tok 9 ?_
                 simp only [go_sem, rL, rE]
                 refine zb ⟨rfl, _, _, ⟨rfl, rfl⟩, .b hg163⟩
               · have f91 := E29.idxS hy84
                 have f92 := E29.fldS (f := 9) rfl rfl hy84 (o := 2) (by decide)
                 refine za tok 9 ?_
                 simp only [go_sem, rL, rE, rA, encGMethod, f91, f92]
                 refine zb ⟨rfl, _, _, ⟨rfl, rfl⟩, .b hg163⟩
             rintro _ _ ⟨rfl, rfl⟩
             refine zb ?_
             simp only [ze, rE, reduceIte, zl, zn]
             refine hK _ _ ?_
             refine zr (b := (((decide (200 < (lN y84.fName : Int))) || (decide (200 < (lN y84.fIn : Int)))) || (decide (200 < (lN y84.fOut : Int))))) rfl (fun hc93 => ?_) (fun hc93 => ?_)
             · rw [if_pos hc93] at h
               refine rg tok [2] fun K hK => ?_
               simp only [go_sem, rL, rE]
               refine hK _ _ ?_
               refine zj ?_
               obtain rfl := Option.some.inj h
               exact retA
             · rw [if_F hc93] at h
               refine zi ?_
               refine hZ83 _ _ ?_
               refine rgE tok [1, 3, 9] fun K hK => ?_
               simp only [go_sem, rL, rE]
               refine hK _ _ ?_
               exact ⟨_, _, _, nS (0 + k78), ⟨k78, IntKind.i64.wrap (x76 + 1), rfl, rfl, rfl, h⟩, .s⟩
           · rw [if_F hc82] at h
             refine zy ?_
             refine hZ75 _ _ ?_
             refine rc [2] fun K hK => ?_
             refine za tok 3 ?_
             simp only [go_sem, rL, rE]
             refine zo 5 (fun L τ => L = ([(1, .op 0 0 0), (180, .bool ((decide (x2 < 3000)) && (decide ((lN a0.fMessages : Int) ≤ 14))))] : List (Nat × AV)) ∧ τ = ([.cells 0 [.str a0.fName, .ds true (fM encGMessage a0.fMessages) (lN a0.fMessages) false, .ds true (fM encGEnumeration a0.fEnums) (lN a0.fEnums) false, .ds true (fM encGMethod a0.fMethods) (lN a0.fMethods) false]] : Store)) ?_ ?_
             · refine zV 175 rfl (fun hg175 => ?_) (fun hg175 => ?_)
               · have t94 := eq_true hg175
                 refine za tok 5 ?_
                 simp only [go_sem, rL, rE, rA]
                 refine zb ⟨rfl, _, _, ⟨rfl, rfl⟩, .p t94⟩
               · have t95 := eq_false hg175
                 refine za tok 5 ?_
                 simp only [go_sem, rL, rE]
                 refine zb ⟨rfl, _, _, ⟨rfl, rfl⟩, .p t95⟩
             rintro _ _ ⟨rfl, rfl⟩
             refine za tok 1 ?_
             simp only [go_sem, rL, rE]
             refine zo 5 (fun L τ => L = ([(1, .op 0 0 0), (186, .bool (((decide (x2 < 3000)) && (decide ((lN a0.fMessages : Int) ≤ 14))) && (decide ((lN a0.fEnums : Int) ≤ 10))))] : List (Nat × AV)) ∧ τ = ([.cells 0 [.str a0.fName, .ds true (fM encGMessage a0.fMessages) (lN a0.fMessages) false, .ds true (fM encGEnumeration a0.fEnums) (lN a0.fEnums) false, .ds true (fM encGMethod a0.fMethods) (lN a0.fMethods) false]] : Store)) ?_ ?_
             · refine zG (b := ((decide (x2 < 3000)) && (decide ((lN a0.fMessages : Int) ≤ 14)))) 181 rfl (fun hg181 => ?_) (fun hg181 => ?_)
               · refine za tok 5 ?_
                 simp only [go_sem, rL, rE, rA]
                 refine zb ⟨rfl, _, _, ⟨rfl, rfl⟩, .b hg181⟩
               · refine za tok 5 ?_
                 simp only [go_sem, rL, rE]
                 refine zb ⟨rfl, _, _, ⟨rfl, rfl⟩, .b hg181⟩
             rintro _ _ ⟨rfl, rfl⟩
             refine za tok 1 ?_
             simp only [go_sem, rL, rE]
             refine zo 5 (fun L τ => L = ([(192, .bool ((((decide (x2 < 3000)) && (decide ((lN a0.fMessages : Int) ≤ 14))) && (decide ((lN a0.fEnums : Int) ≤ 10))) && (decide ((lN a0.fMethods : Int) ≤ 10))))] : List (Nat × AV)) ∧ τ = ([.cells 0 [.str a0.fName, .ds true (fM encGMessage a0.fMessages) (lN a0.fMessages) false, .ds true (fM encGEnumeration a0.fEnums) (lN a0.fEnums) false, .ds true (fM encGMethod a0.fMethods) (lN a0.fMethods) false]] : Store)) ?_ ?_
             · refine zG (b := (((decide (x2 < 3000)) && (decide ((lN a0.fMessages : Int) ≤ 14))) && (decide ((lN a0.fEnums : Int) ≤ 10)))) 187 rfl (fun hg187 => ?_) (fun hg187 => ?_)
               · refine za tok 5 ?_
                 simp only [go_sem, rL, rE, rA]
                 refine zb ⟨rfl, _, _, ⟨rfl, rfl⟩, .b hg187⟩
               · refine za tok 5 ?_
                 simp only [go_sem, rL, rE]
                 refine zb ⟨rfl, _, _, ⟨rfl, rfl⟩, .b hg187⟩
             rintro _ _ ⟨rfl, rfl⟩
             refine za tok 1 ?_
             simp only [go_sem, rL]
             refine zb ?_
             simp only [ze, upd, rE, reduceIte, zl, zn]
             refine hK _ _ ?_
             refine zj ?_
             obtain rfl := Option.some.inj h
             exact retA
theorem law00_Few.ev (a0 : GSchema) (r : Bool) (h : law00_Few a0 = some r) (σ : Store) : ACalls Tryd.prog 22 [.agg (encGSchema a0)] σ (fun r' σ' => r' = .bool r ∧ σ' = σ) :=
 (law00_Few.ok a0 r h).c σ
def check_Method.l4 (a1 : List UInt8) : List GMethod → Int → GMethod × Bool
 | [], x2 => ((⟨[], [], []⟩ : GMethod), false)
 | y4 :: q4, x2 => (if y4.fName = a1 then (y4, true) else ((check_Method.l4 a1 q4) (x2 + 1)))
def check_Method (a0 : GSchema) (a1 : List UInt8) : GMethod × Bool :=
 (check_Method.l4 a1 a0.fMethods 0)
theorem check_Method.ok (a0 : GSchema) (a1 : List UInt8) (r : GMethod × Bool) (h : check_Method a0 a1 = r) : ACalls Tryd.prog 45 [.agg (encGSchema a0), .str a1] [] (fun r' _ => r' = .tup [.agg (encGMethod r.1), .bool r.2]) := by
 refine zm (rs := [.cell 4 73, .tmp 5]) tok Tryd.func45 rfl Tryd.ntmps45 rfl Tryd.call45 (by simp) ?_
 refine zq [(0, .agg (encGSchema a0)), (1, .str a1)] ⟨rfl, rfl, trivial⟩ ?_
 unfold check_Method at h
 refine rg tok [1, 2, 4] fun K hK => ?_
 simp only [go_sem, rL, rE, rA, reduceCtorEq, encGSchema]
 refine hK _ _ ?_
 refine zf fun Z1 hZ1 => ?_
 refine rg tok [1, 4, 9, 10, 11] fun K hK => ?_
 simp only [go_sem, rL, rE, rA]
 refine hK _ _ ?_
 refine zk ?_
 refine zN 9 fun hb4 => ?_
 replace hb4 : lN a0.fMethods ≤ 9223372036854775807 := hb4.1
 refine zx (fun m L τ => ∃ (p4 q4 : List GMethod) (x2 : Int), m = lN q4 ∧ L = ([(1, .str a1), (4, .op 0 0 0), (9, .ds true (fM encGMethod a0.fMethods) (lN a0.fMethods) false), (10, .int .i64 (lN a0.fMethods : Int)), (11, .int .i64 x2)] : List (Nat × AV)) ∧ τ = ([.cells 0 [.str [], .str [], .str []]] : Store) ∧ a0.fMethods = p4 ++ q4 ∧ x2 = (lN p4 : Int) ∧ check_Method.l4 a1 q4 x2 = r) _ ⟨[], a0.fMethods, 0, rfl, rfl, rfl, rfl, rfl, h⟩ (.t [1] false) ?_
 rintro m L τ ⟨p4, q4, x2, rfl, rfl, rfl, hE4, hi4, h⟩
 rcases q4 with _ | ⟨y4, q4⟩
 · have hz4 := zT hE4 hi4
   simp only [check_Method.l4] at h
   refine rg tok [1, 4, 9, 10, 11, 12] fun K hK => ?_
   simp only [go_sem, rL, rE, hz4]
   refine hK _ _ ?_
   refine zf fun Z5 hZ5 => ?_
   refine zt rfl ?_
   refine zy ?_
   refine hZ1 _ _ ?_
   refine rg tok [4, 5] fun K hK => ?_
   simp only [go_sem, rL, rD, rE, rA]
   refine hK _ _ ?_
   refine zj ?_
   obtain rfl := h
   exact retA
 · obtain ⟨hz4, hw4, hx4, hE'4, hi'4⟩ := zI hE4 hi4 hb4
   simp only [check_Method.l4] at h
   refine rg tok [1, 4, 9, 10, 11, 12] fun K hK => ?_
   simp only [go_sem, rL, rE, hz4]
   refine hK _ _ ?_
   refine zf fun Z6 hZ6 => ?_
   refine zw rfl ?_
   refine zi ?_
   refine hZ6 _ _ ?_
   refine zf fun Z7 hZ7 => ?_
   refine zk ?_
   have f8 := E29.idxS hx4
   have f9 := E29.loadS rfl rfl hx4
   refine rg tok [1, 4, 7, 9, 10, 11] fun K hK => ?_
   simp only [go_sem, rL, rD, rE, rA, encGMethod, f8, f9]
   refine hK _ _ ?_
   refine rg tok [1, 4, 7, 9, 10, 11, 18] fun K hK => ?_
   simp only [go_sem, rL, rE, rA]
   refine hK _ _ ?_
   refine zz rfl (fun hc10 => ?_) (fun hc10 => ?_)
   · rw [if_pos hc10] at h
     have t11 := eq_true hc10
     refine rg tok [4, 5] fun K hK => ?_
     simp only [go_sem, rL, rD, rE, rA, t11]
     refine hK _ _ ?_
     refine zj ?_
     obtain rfl := h
     exact retA
   · rw [if_neg hc10] at h
     have t12 := eq_false hc10
     refine zi ?_
     refine hZ7 _ _ ?_
     refine rgE tok [1, 4, 9, 10, 11] fun K hK => ?_
     simp only [go_sem, rL, rE, hw4, t12]
     refine hK _ _ ?_
     exact ⟨_, _, _, nS q4.length, ⟨p4 ++ [y4], q4, x2 + 1, rfl, rfl, rfl, hE'4, hi'4, h⟩, (.t [0] false)⟩
theorem check_Method.ev (a0 : GSchema) (a1 : List UInt8) (r : GMethod × Bool) (h : check_Method a0 a1 = r) (σ : Store) : ACalls Tryd.prog 45 [.agg (encGSchema a0), .str a1] σ (fun r' σ' => r' = .tup [.agg (encGMethod r.1), .bool r.2] ∧ σ' = σ) :=
 (check_Method.ok a0 a1 r h).c σ
def proxy_Pass.j8 (a0 : GSchema) (a1 : GPacket) (x7 : List UInt8) : Option (GPacket × Bool) :=
 (grd (lN a1.fBody ≤ 9223372036854775807)).bind fun _u9 => (decode_Decode a0 x7 a1.fBody).bind fun r11 => (if r11.2 = 0 then (encode_Encode r11.1).bind fun r16 => (if r16.2 = 0 then some ((⟨a1.fKind, a1.fFrom, a1.fTo, a1.fID, a1.fVersion, a1.fMethod, a1.fErr, r16.1⟩ : GPacket), true) else some ((⟨0, 0, 0, 0, 0, [], 0, []⟩ : GPacket), false)) else some ((⟨0, 0, 0, 0, 0, [], 0, []⟩ : GPacket), false))
def proxy_Pass.j23 (a0 : GSchema) (a1 : GPacket) (r6 : GMethod × Bool) (x22 : Bool) : Option (GPacket × Bool) :=
 (if x22 = true then some (a1, true) else (if a1.fKind = 4 then (proxy_Pass.j8 a0 a1 r6.1.fOut) else (proxy_Pass.j8 a0 a1 r6.1.fIn)))
def proxy_Pass (a0 : GSchema) (a1 : GPacket) : Option (GPacket × Bool) :=
 (check_Check a0).bind fun r2 => (if r2 = 0 then bnd (check_Method a0 a1.fMethod) fun r6 => (if (!r6.2) = true then (proxy_Pass.j23 a0 a1 r6 (!r6.2)) else (proxy_Pass.j23 a0 a1 r6 ((!(decide (a1.fKind = 3))) && ((!(decide (a1.fKind = 4))) || (!(decide (a1.fErr = 0))))))) else some ((⟨0, 0, 0, 0, 0, [], 0, []⟩ : GPacket), false))
theorem proxy_Pass.ok (a0 : GSchema) (a1 : GPacket) (r : GPacket × Bool) (h : proxy_Pass a0 a1 = some r) : ACalls Tryd.prog 25 [.agg (encGSchema a0), .agg (encGPacket a1)] [] (fun r' _ => r' = .tup [.agg (encGPacket r.1), .bool r.2]) := by
 refine zm (rs := [.cell 4 64, .tmp 5]) tok Tryd.func25 rfl Tryd.ntmps25 rfl Tryd.call25 (by simp) ?_
 refine zq [(0, .agg (encGSchema a0)), (1, .agg (encGPacket a1))] ⟨rfl, rfl, trivial⟩ ?_
 unfold proxy_Pass at h
 refine rg tok [2, 3, 4] fun K hK => ?_
 simp only [go_sem, rL, rE, rA, reduceCtorEq, encGPacket, encGSchema]
 refine hK _ _ ?_
 refine zf fun Z1 hZ1 => ?_
 refine rc [2, 3, 4, 14] fun K hK => ?_
 obtain ⟨r2, hr2, h⟩ := bind_some h
 refine za tok 1 ?_
 simp only [go_sem, rL, rD, rE, rA]
 refine zh rfl rfl rfl (check_Check.ev a0 r2 hr2 _) ?_
 rintro _ _ ⟨rfl, rfl⟩
 refine za tok 1 ?_
 simp only [go_sem, rL, rE]
 refine zb ?_
 simp only [ze, upd, rE, reduceIte, zl, zn]
 refine hK _ _ ?_
 refine zz rfl (fun hc3 => ?_) (fun hc3 => ?_)
 · rw [if_neg hc3] at h
   have t4 := eq_false hc3
   refine rg tok [4, 5] fun K hK => ?_
   simp only [go_sem, rL, rD, rE, rA, t4]
   refine hK _ _ ?_
   refine zj ?_
   obtain rfl := Option.some.inj h
   exact retA
 · rw [if_pos hc3] at h
   have t5 := eq_true hc3
   refine zi ?_
   refine hZ1 _ _ ?_
   refine rc [2, 3, 4, 6, 7] fun K hK => ?_
   obtain ⟨r6, hr6, h⟩ := zF h
   refine za tok 3 ?_
   simp only [go_sem, rL, rD, rE, rA, t5]
   refine zh rfl rfl rfl (check_Method.ev a0 a1.fMethod r6 hr6 _) ?_
   rintro _ _ ⟨rfl, rfl⟩
   refine za tok 6 ?_
   simp only [go_sem, rL, rD, rE, rA, encGMethod]
   refine zb ?_
   simp only [ze, upd, rE, reduceIte, zl, zn]
   refine hK _ _ ?_
   refine rg tok [2, 3, 4, 6, 7, 8] fun K hK => ?_
   simp only [go_sem, rL, rE, rA]
   refine hK _ _ ?_
   refine zp1 (fun L τ => ∃ (x7 : List UInt8), L = ([(2, .op 0 0 0), (3, .op 1 0 0), (4, .op 2 0 0), (8, .str x7)] : List (Nat × AV)) ∧ τ = ([.cells 0 [.str a0.fName, .ds true (fM encGMessage a0.fMessages) (lN a0.fMessages) false, .ds true (fM encGEnumeration a0.fEnums) (lN a0.fEnums) false, .ds true (fM encGMethod a0.fMethods) (lN a0.fMethods) false], .cells 0 [.int .i64 a1.fKind, .int .i64 a1.fFrom, .int .i64 a1.fTo, .int .i64 a1.fID, .int .i64 a1.fVersion, .str a1.fMethod, .int .i64 a1.fErr, .str a1.fBody], .cells 0 [.int .i64 0, .int .i64 0, .int .i64 0, .int .i64 0, .int .i64 0, .str [], .int .i64 0, .str []]] : Store) ∧ proxy_Pass.j8 a0 a1 x7 = some r) ?_ ?_
   · refine zk ?_
     refine zp1 (fun L τ => ∃ (x22 : Bool), L = ([(2, .op 0 0 0), (3, .op 1 0 0), (4, .op 2 0 0), (6, .op 3 0 0), (8, .str r6.1.fIn), (25, .bool x22)] : List (Nat × AV)) ∧ τ = ([.cells 0 [.str a0.fName, .ds true (fM encGMessage a0.fMessages) (lN a0.fMessages) false, .ds true (fM encGEnumeration a0.fEnums) (lN a0.fEnums) false, .ds true (fM encGMethod a0.fMethods) (lN a0.fMethods) false], .cells 0 [.int .i64 a1.fKind, .int .i64 a1.fFrom, .int .i64 a1.fTo, .int .i64 a1.fID, .int .i64 a1.fVersion, .str a1.fMethod, .int .i64 a1.fErr, .str a1.fBody], .cells 0 [.int .i64 0, .int .i64 0, .int .i64 0, .int .i64 0, .int .i64 0, .str [], .int .i64 0, .str []], .cells 0 [.str r6.1.fName, .str r6.1.fIn, .str r6.1.fOut]] : Store) ∧ proxy_Pass.j23 a0 a1 r6 x22 = some r) ?_ ?_
     · refine rg tok [2, 3, 4, 6, 8, 25] fun K hK => ?_
       simp only [go_sem, rL, rE]
       refine hK _ _ ?_
       refine zr (b := (!r6.2)) rfl (fun hc28 => ?_) (fun hc28 => ?_)
       · rw [if_pos hc28] at h
         refine zi ?_
         exact ⟨_, _, ⟨!r6.2, rfl, rfl, h⟩, .s⟩
       · rw [if_F hc28] at h
         refine rcE [2, 3, 4, 6, 8, 25] fun K hK => ?_
         refine za tok 4 ?_
         simp only [go_sem, rL, rE, rA]
         refine zo 9 (fun L τ => L = ([(2, .op 0 0 0), (3, .op 1 0 0), (4, .op 2 0 0), (6, .op 3 0 0), (8, .str r6.1.fIn), (25, .bool (!r6.2)), (40, .bool ((!(decide (a1.fKind = 3))) && ((!(decide (a1.fKind = 4))) || (!(decide (a1.fErr = 0))))))] : List (Nat × AV)) ∧ τ = ([.cells 0 [.str a0.fName, .ds true (fM encGMessage a0.fMessages) (lN a0.fMessages) false, .ds true (fM encGEnumeration a0.fEnums) (lN a0.fEnums) false, .ds true (fM encGMethod a0.fMethods) (lN a0.fMethods) false], .cells 0 [.int .i64 a1.fKind, .int .i64 a1.fFrom, .int .i64 a1.fTo, .int .i64 a1.fID, .int .i64 a1.fVersion, .str a1.fMethod, .int .i64 a1.fErr, .str a1.fBody], .cells 0 [.int .i64 0, .int .i64 0, .int .i64 0, .int .i64 0, .int .i64 0, .str [], .int .i64 0, .str []], .cells 0 [.str r6.1.fName, .str r6.1.fIn, .str r6.1.fOut]] : Store)) ?_ ?_
         · refine zV 31 rfl (fun hg31 => ?_) (fun hg31 => ?_)
           · have t29 := eq_false hg31
             refine za tok 4 ?_
             simp only [go_sem, rL, rE, rA]
             refine zo 4 (fun L τ => L = ([(2, .op 0 0 0), (3, .op 1 0 0), (4, .op 2 0 0), (6, .op 3 0 0), (8, .str r6.1.fIn), (25, .bool (!r6.2)), (31, .bool true), (39, .bool ((!(decide (a1.fKind = 4))) || (!(decide (a1.fErr = 0)))))] : List (Nat × AV)) ∧ τ = ([.cells 0 [.str a0.fName, .ds true (fM encGMessage a0.fMessages) (lN a0.fMessages) false, .ds true (fM encGEnumeration a0.fEnums) (lN a0.fEnums) false, .ds true (fM encGMethod a0.fMethods) (lN a0.fMethods) false], .cells 0 [.int .i64 a1.fKind, .int .i64 a1.fFrom, .int .i64 a1.fTo, .int .i64 a1.fID, .int .i64 a1.fVersion, .str a1.fMethod, .int .i64 a1.fErr, .str a1.fBody], .cells 0 [.int .i64 0, .int .i64 0, .int .i64 0, .int .i64 0, .int .i64 0, .str [], .int .i64 0, .str []], .cells 0 [.str r6.1.fName, .str r6.1.fIn, .str r6.1.fOut]] : Store)) ?_ ?_
             · refine zV 35 rfl (fun hg35 => ?_) (fun hg35 => ?_)
               · have t30 := eq_false hg35
                 refine za tok 4 ?_
                 simp only [go_sem, rL, rE]
                 refine zb ⟨rfl, _, _, ⟨rfl, rfl⟩, .p t30⟩
               · have t31 := eq_true hg35
                 refine za tok 4 ?_
                 simp only [go_sem, rL, rE, rA]
                 refine zb ⟨rfl, _, _, ⟨rfl, rfl⟩, .p t31⟩
             rintro _ _ ⟨rfl, rfl⟩
             refine za tok 1 ?_
             simp only [go_sem, rL, rE]
             refine zb ⟨rfl, _, _, ⟨rfl, rfl⟩, .p t29⟩
           · have t32 := eq_true hg31
             refine za tok 9 ?_
             simp only [go_sem, rL, rE]
             refine zb ⟨rfl, _, _, ⟨rfl, rfl⟩, .p t32⟩
         rintro _ _ ⟨rfl, rfl⟩
         refine za tok 1 ?_
         simp only [go_sem, rL, rE]
         refine zb ?_
         simp only [ze, upd, rE, reduceIte, zl, zn]
         refine hK _ _ ?_
         exact ⟨_, _, ⟨((!(decide (a1.fKind = 3))) && ((!(decide (a1.fKind = 4))) || (!(decide (a1.fErr = 0))))), rfl, rfl, h⟩, .s⟩
     rintro _ _ ⟨x22, rfl, rfl, h⟩
     unfold proxy_Pass.j23 at h
     refine zr (b := x22) rfl (fun hc24 => ?_) (fun hc24 => ?_)
     · rw [if_pos hc24] at h
       refine rg tok [4, 5] fun K hK => ?_
       simp only [go_sem, rL, rD, rE, rA]
       refine hK _ _ ?_
       refine zj ?_
       obtain rfl := Option.some.inj h
       exact retA
     · rw [if_F hc24] at h
       refine rg tok [2, 3, 4, 6, 8, 42] fun K hK => ?_
       simp only [go_sem, rL, rE, rA]
       refine hK _ _ ?_
       refine zz rfl (fun hc25 => ?_) (fun hc25 => ?_)
       · rw [if_pos hc25] at h
         have t26 := eq_true hc25
         refine rgE tok [2, 3, 4, 8] fun K hK => ?_
         simp only [go_sem, rL, rE, rA, t26]
         refine hK _ _ ?_
         exact ⟨_, _, ⟨r6.1.fOut, rfl, rfl, h⟩, (.t [0, 1, 2] false)⟩
       · rw [if_neg hc25] at h
         have t27 := eq_false hc25
         refine zi ?_
         exact ⟨_, _, ⟨r6.1.fIn, rfl, rfl, h⟩, (.t [0, 1, 2] false)⟩
   rintro _ _ ⟨x7, rfl, rfl, h⟩
   unfold proxy_Pass.j8 at h
   refine rc [3, 4, 9, 10] fun K hK => ?_
   obtain ⟨_u9, hu9, h⟩ := bind_some h
   have gu9 := zO1 hu9
   have gu9t := eq_true gu9
   have f10 := conv_s2b (T := tab) (src := 9) (dst := 35) rfl rfl rfl rfl rfl rfl (zO1 hu9)
   obtain ⟨r11, hr11, h⟩ := bind_some h
   refine za tok 5 ?_
   simp only [go_sem, rL, rD, rE, rA, f10]
   refine zn5 (L := [(3, .op 0 0 0), (4, .op 1 0 0), (49, .agg (encGSchema a0)), (50, .str x7), (53, .ds true (fM encB a1.fBody) (lN a1.fBody) false)]) (τ := [.cells 0 [.int .i64 a1.fKind, .int .i64 a1.fFrom, .int .i64 a1.fTo, .int .i64 a1.fID, .int .i64 a1.fVersion, .str a1.fMethod, .int .i64 a1.fErr, .str a1.fBody], .cells 0 [.int .i64 0, .int .i64 0, .int .i64 0, .int .i64 0, .int .i64 0, .str [], .int .i64 0, .str []]]) (.t [1, 2] false) ?_
   refine zh rfl rfl rfl (decode_Decode.ev a0 x7 a1.fBody r11 hr11 _) ?_
   rintro _ _ ⟨rfl, rfl⟩
   refine za tok 6 ?_
   simp only [go_sem, rL, rD, rE, rA, cellsGTree, encGSchema]
   refine zb ?_
   simp only [ze, upd, rE, reduceIte, zl, zn]
   refine hK _ _ ?_
   refine zf fun Z12 hZ12 => ?_
   refine rg tok [3, 4, 9, 58] fun K hK => ?_
   simp only [go_sem, rL, rE]
   refine hK _ _ ?_
   refine zz rfl (fun hc13 => ?_) (fun hc13 => ?_)
   · rw [if_neg hc13] at h
     have t14 := eq_false hc13
     refine rg tok [4, 5] fun K hK => ?_
     simp only [go_sem, rL, rD, rE, rA, t14]
     refine hK _ _ ?_
     refine zj ?_
     obtain rfl := Option.some.inj h
     exact retA
   · rw [if_pos hc13] at h
     have t15 := eq_true hc13
     refine zi ?_
     refine hZ12 _ _ ?_
     refine rc [3, 4, 10, 11] fun K hK => ?_
     obtain ⟨r16, hr16, h⟩ := bind_some h
     refine za tok 1 ?_
     simp only [go_sem, rL, rD, rE, rA, t15]
     refine zh rfl rfl rfl (encode_Encode.ev r11.1 r16 hr16 _) ?_
     rintro _ _ ⟨rfl, rfl⟩
     refine za tok 5 ?_
     simp only [go_sem, rL, rE, rA]
     refine zb ?_
     simp only [ze, upd, rE, reduceIte, zl, zn]
     refine hK _ _ ?_
     refine zf fun Z17 hZ17 => ?_
     refine rg tok [3, 4, 11, 66] fun K hK => ?_
     simp only [go_sem, rL, rE]
     refine hK _ _ ?_
     refine zz rfl (fun hc18 => ?_) (fun hc18 => ?_)
     · rw [if_neg hc18] at h
       have t19 := eq_false hc18
       refine rg tok [4, 5] fun K hK => ?_
       simp only [go_sem, rL, rD, rE, rA, t19]
       refine hK _ _ ?_
       refine zj ?_
       obtain rfl := Option.some.inj h
       exact retA
     · rw [if_pos hc18] at h
       have t20 := eq_true hc18
       refine zi ?_
       refine hZ17 _ _ ?_
       have f21 := conv_b2s (T := tab) (src := 35) (dst := 9) rfl rfl rfl rfl rfl rfl r16.1
       refine rg tok [3, 4] fun K hK => ?_
       simp only [go_sem, rL, rD, rE, rA, t20, f21]
       refine hK _ _ ?_
       refine rg tok [4, 5] fun K hK => ?_
       simp only [go_sem, rL, rD, rE, rA]
       refine hK _ _ ?_
       refine zj ?_
       obtain rfl := Option.some.inj h
       exact retA
theorem proxy_Pass.ev (a0 : GSchema) (a1 : GPacket) (r : GPacket × Bool) (h : proxy_Pass a0 a1 = some r) (σ : Store) : ACalls Tryd.prog 25 [.agg (encGSchema a0), .agg (encGPacket a1)] σ (fun r' σ' => r' = .tup [.agg (encGPacket r.1), .bool r.2] ∧ σ' = σ) :=
 (proxy_Pass.ok a0 a1 r h).c σ
def law25_awake  : Option Bool :=
 (proxy_Pass (⟨[97], [(⟨[109], ([] : List GField), ([] : List Int)⟩ : GMessage)], ([] : List GEnumeration), [(⟨[99], [109], [109]⟩ : GMethod)]⟩ : GSchema) (⟨1, 0, 0, 0, 0, [], 0, [1]⟩ : GPacket)).bind fun r1 => (proxy_Pass (⟨[97], [(⟨[109], ([] : List GField), ([] : List Int)⟩ : GMessage)], ([] : List GEnumeration), [(⟨[99], [109], [109]⟩ : GMethod)]⟩ : GSchema) (⟨3, 0, 0, 0, 0, [99], 0, [4, 2, 2, 2]⟩ : GPacket)).bind fun r2 => some (((r1.2 && r2.2) && (decide (r1.1.fBody = [1]))) && (decide (r2.1.fBody = [2, 2, 4, 2])))
theorem law25_awake.ok  (r : Bool) (h : law25_awake = some r) : ACalls Tryd.prog 24 [] [] (fun r' _ => r' = .bool r) := by
 refine zm (rs := [.tmp 0]) tok Tryd.func24 rfl Tryd.ntmps24 rfl Tryd.call24 (by simp) ?_
 refine zq [] trivial ?_
 unfold law25_awake at h
 refine rg tok [] fun K hK => ?_
 simp only [go_sem, rL]
 refine hK _ _ ?_
 refine rg tok [1] fun K hK => ?_
 simp only [go_sem, rL, rD, rE, rA, rM, zC, zD, List.range_succ, List.range_zero, true_and, Nat.reduceMod]
 refine hK _ _ ?_
 refine rc [1, 2, 3] fun K hK => ?_
 obtain ⟨r1, hr1, h⟩ := bind_some h
 refine za tok 2 ?_
 simp only [go_sem, rL, rD, rA]
 refine zh rfl rfl rfl (proxy_Pass.ok (⟨[97], [(⟨[109], ([] : List GField), ([] : List Int)⟩ : GMessage)], ([] : List GEnumeration), [(⟨[99], [109], [109]⟩ : GMethod)]⟩ : GSchema) (⟨1, 0, 0, 0, 0, [], 0, [1]⟩ : GPacket) r1 hr1).ld ?_
 rintro _ _ ⟨rfl, rfl⟩
 refine za tok 6 ?_
 simp only [go_sem, rL, rD, rE, rA, encGPacket]
 refine zb ?_
 simp only [ze, upd, rE, reduceIte, zl, zn]
 refine hK _ _ ?_
 refine rc [2, 3, 4, 5] fun K hK => ?_
 obtain ⟨r2, hr2, h⟩ := bind_some h
 refine za tok 2 ?_
 simp only [go_sem, rL, rD, rE, rA]
 refine zh rfl rfl rfl (proxy_Pass.ok (⟨[97], [(⟨[109], ([] : List GField), ([] : List Int)⟩ : GMessage)], ([] : List GEnumeration), [(⟨[99], [109], [109]⟩ : GMethod)]⟩ : GSchema) (⟨3, 0, 0, 0, 0, [99], 0, [4, 2, 2, 2]⟩ : GPacket) r2 hr2).ld ?_
 rintro _ _ ⟨rfl, rfl⟩
 refine za tok 6 ?_
 simp only [go_sem, rL, rD, rE, rA, encGPacket]
 refine zb ?_
 simp only [ze, upd, rE, reduceIte, zl, zn]
 refine hK _ _ ?_
 refine rc [0] fun K hK => ?_
 refine za tok 2 ?_
 simp only [go_sem, rL, rE]
 refine zo 2 (fun L τ => L = ([(2, .op 3 0 0), (4, .op 4 0 0), (26, .bool (r1.2 && r2.2))] : List (Nat × AV)) ∧ τ = ([.cells 0 [.str [109], .ds true [] 0 true, .ds true [] 0 true], .cells 0 [.str [99], .str [109], .str [109]], .cells 0 [.str [97], .os true 3 0 0 0 1 true, .ds true [] 0 true, .os true 3 1 0 0 1 true], .cells 0 [.int .i64 r1.1.fKind, .int .i64 r1.1.fFrom, .int .i64 r1.1.fTo, .int .i64 r1.1.fID, .int .i64 r1.1.fVersion, .str r1.1.fMethod, .int .i64 r1.1.fErr, .str r1.1.fBody], .cells 0 [.int .i64 r2.1.fKind, .int .i64 r2.1.fFrom, .int .i64 r2.1.fTo, .int .i64 r2.1.fID, .int .i64 r2.1.fVersion, .str r2.1.fMethod, .int .i64 r2.1.fErr, .str r2.1.fBody]] : Store)) ?_ ?_
 · refine zG (b := r1.2) 24 rfl (fun hg24 => ?_) (fun hg24 => ?_)
   · refine za tok 2 ?_
     simp only [go_sem, rL, rE]
     refine zb ⟨rfl, _, _, ⟨rfl, rfl⟩, .b hg24⟩
   · refine za tok 2 ?_
     simp only [go_sem, rL, rE]
     refine zb ⟨rfl, _, _, ⟨rfl, rfl⟩, .b hg24⟩
 rintro _ _ ⟨rfl, rfl⟩
 refine za tok 1 ?_
 simp only [go_sem, rL, rE]
 refine zo 4 (fun L τ => L = ([(4, .op 4 0 0), (31, .bool ((r1.2 && r2.2) && (decide (r1.1.fBody = [1]))))] : List (Nat × AV)) ∧ τ = ([.cells 0 [.str [109], .ds true [] 0 true, .ds true [] 0 true], .cells 0 [.str [99], .str [109], .str [109]], .cells 0 [.str [97], .os true 3 0 0 0 1 true, .ds true [] 0 true, .os true 3 1 0 0 1 true], .cells 0 [.int .i64 r1.1.fKind, .int .i64 r1.1.fFrom, .int .i64 r1.1.fTo, .int .i64 r1.1.fID, .int .i64 r1.1.fVersion, .str r1.1.fMethod, .int .i64 r1.1.fErr, .str r1.1.fBody], .cells 0 [.int .i64 r2.1.fKind, .int .i64 r2.1.fFrom, .int .i64 r2.1.fTo, .int .i64 r2.1.fID, .int .i64 r2.1.fVersion, .str r2.1.fMethod, .int .i64 r2.1.fErr, .str r2.1.fBody]] : Store)) ?_ ?_
 · refine zG (b := (r1.2 && r2.2)) 27 rfl (fun hg27 => ?_) (fun hg27 => ?_)
   · refine za tok 4 ?_
     simp only [go_sem, rL, rE, rA]
     refine zb ⟨rfl, _, _, ⟨rfl, rfl⟩, .b hg27⟩
   · refine za tok 4 ?_
     simp only [go_sem, rL, rE]
     refine zb ⟨rfl, _, _, ⟨rfl, rfl⟩, .b hg27⟩
 rintro _ _ ⟨rfl, rfl⟩
 refine za tok 1 ?_
 simp only [go_sem, rL, rE]
 refine zo 4 (fun L τ => L = ([(36, .bool (((r1.2 && r2.2) && (decide (r1.1.fBody = [1]))) && (decide (r2.1.fBody = [2, 2, 4, 2]))))] : List (Nat × AV)) ∧ τ = ([.cells 0 [.str [109], .ds true [] 0 true, .ds true [] 0 true], .cells 0 [.str [99], .str [109], .str [109]], .cells 0 [.str [97], .os true 3 0 0 0 1 true, .ds true [] 0 true, .os true 3 1 0 0 1 true], .cells 0 [.int .i64 r1.1.fKind, .int .i64 r1.1.fFrom, .int .i64 r1.1.fTo, .int .i64 r1.1.fID, .int .i64 r1.1.fVersion, .str r1.1.fMethod, .int .i64 r1.1.fErr, .str r1.1.fBody], .cells 0 [.int .i64 r2.1.fKind, .int .i64 r2.1.fFrom, .int .i64 r2.1.fTo, .int .i64 r2.1.fID, .int .i64 r2.1.fVersion, .str r2.1.fMethod, .int .i64 r2.1.fErr, .str r2.1.fBody]] : Store)) ?_ ?_
 · refine zG (b := ((r1.2 && r2.2) && (decide (r1.1.fBody = [1])))) 32 rfl (fun hg32 => ?_) (fun hg32 => ?_)
   · refine za tok 4 ?_
     simp only [go_sem, rL, rE, rA]
     refine zb ⟨rfl, _, _, ⟨rfl, rfl⟩, .b hg32⟩
   · refine za tok 4 ?_
     simp only [go_sem, rL, rE]
     refine zb ⟨rfl, _, _, ⟨rfl, rfl⟩, .b hg32⟩
 rintro _ _ ⟨rfl, rfl⟩
 refine za tok 1 ?_
 simp only [go_sem, rL]
 refine zb ?_
 simp only [ze, upd, rE, reduceIte, zl, zn]
 refine hK _ _ ?_
 refine zj ?_
 obtain rfl := Option.some.inj h
 exact retA
theorem law25_awake.ev  (r : Bool) (h : law25_awake = some r) (σ : Store) : ACalls Tryd.prog 24 [] σ (fun r' σ' => r' = .bool r ∧ σ' = σ) :=
 (law25_awake.ok  r h).c σ
def proxy_Chain.j3 (m0_1 : GPacket) (x2 : Bool) : Option (GPacket × Bool) :=
 some (m0_1, x2)
def proxy_Chain.l10 : List GSchema → Int → GPacket → Bool → Option (GPacket × Bool)
 | [], x6, m0_4, x5 => (proxy_Chain.j3 m0_4 x5)
 | y10 :: q10, x6, m0_4, x5 => (proxy_Pass y10 m0_4).bind fun r16 => (if (!r16.2) = true then (proxy_Chain.j3 r16.1 r16.2) else ((proxy_Chain.l10 q10) (x6 + 1) r16.1 r16.2))
def proxy_Chain (a0 : List GSchema) (a1 : GPacket) : Option (GPacket × Bool) :=
 (proxy_Chain.l10 a0 0 a1 true)
theorem proxy_Chain.ok (a0 : List GSchema) (a1 : GPacket) (r : GPacket × Bool) (h : proxy_Chain a0 a1 = some r) : ACalls Tryd.prog 28 [.ds true (fM encGSchema a0) (lN a0) false, .agg (encGPacket a1)] [] (fun r' _ => r' = .tup [.agg (encGPacket r.1), .bool r.2]) := by
 refine zm (rs := [.cell 4 64, .tmp 5]) tok Tryd.func28 rfl Tryd.ntmps28 rfl Tryd.call28 (by simp) ?_
 refine zq [(0, .ds true (fM encGSchema a0) (lN a0) false), (1, .agg (encGPacket a1))] ⟨rfl, rfl, trivial⟩ ?_
 unfold proxy_Chain at h
 refine rg tok [0, 3, 4] fun K hK => ?_
 simp only [go_sem, rL, rE, rA, reduceCtorEq, encGPacket]
 refine hK _ _ ?_
 refine awp_scope ?_
 refine rg tok [0, 3, 4, 6] fun K hK => ?_
 simp only [go_sem, rL, rE, reduceCtorEq]
 refine hK _ _ ?_
 refine zf fun K hK => awp_label ?_
 refine hK _ _ ?_
 refine zp1 (fun L τ => ∃ (m0_1 : GPacket) (x2 : Bool), L = ([(3, .op 0 0 0), (4, .op 1 0 0), (6, .bool x2)] : List (Nat × AV)) ∧ τ = ([.cells 0 [.int .i64 m0_1.fKind, .int .i64 m0_1.fFrom, .int .i64 m0_1.fTo, .int .i64 m0_1.fID, .int .i64 m0_1.fVersion, .str m0_1.fMethod, .int .i64 m0_1.fErr, .str m0_1.fBody], .cells 0 [.int .i64 0, .int .i64 0, .int .i64 0, .int .i64 0, .int .i64 0, .str [], .int .i64 0, .str []]] : Store) ∧ proxy_Chain.j3 m0_1 x2 = some r) ?_ ?_
 · refine rg tok [3, 4, 6, 9, 10, 11] fun K hK => ?_
   simp only [go_sem, rL, rE, reduceCtorEq]
   refine hK _ _ ?_
   refine zk ?_
   refine zN 9 fun hb10 => ?_
   replace hb10 : lN a0 ≤ 9223372036854775807 := hb10.1
   refine zx (fun m L τ => ∃ (p10 q10 : List GSchema) (x6 : Int) (m0_4 : GPacket) (x5 : Bool), m = lN q10 ∧ L = ([(3, .op 0 0 0), (4, .op 1 0 0), (6, .bool x5), (9, .ds true (fM encGSchema a0) (lN a0) false), (10, .int .i64 (lN a0 : Int)), (11, .int .i64 x6)] : List (Nat × AV)) ∧ τ = ([.cells 0 [.int .i64 m0_4.fKind, .int .i64 m0_4.fFrom, .int .i64 m0_4.fTo, .int .i64 m0_4.fID, .int .i64 m0_4.fVersion, .str m0_4.fMethod, .int .i64 m0_4.fErr, .str m0_4.fBody], .cells 0 [.int .i64 0, .int .i64 0, .int .i64 0, .int .i64 0, .int .i64 0, .str [], .int .i64 0, .str []]] : Store) ∧ a0 = p10 ++ q10 ∧ x6 = (lN p10 : Int) ∧ proxy_Chain.l10 q10 x6 m0_4 x5 = some r) _ ⟨[], a0, 0, a1, true, rfl, rfl, rfl, rfl, rfl, h⟩ .s ?_
   rintro m L τ ⟨p10, q10, x6, m0_4, x5, rfl, rfl, rfl, hE10, hi10, h⟩
   rcases q10 with _ | ⟨y10, q10⟩
   · have hz10 := zT hE10 hi10
     simp only [proxy_Chain.l10] at h
     refine rg tok [3, 4, 6, 9, 10, 11, 12] fun K hK => ?_
     simp only [go_sem, rL, rE, hz10]
     refine hK _ _ ?_
     refine zf fun Z11 hZ11 => ?_
     refine zt rfl ?_
     refine zy ?_
     exact ⟨_, _, ⟨m0_4, x5, rfl, rfl, h⟩, .s⟩
   · obtain ⟨hz10, hw10, hx10, hE'10, hi'10⟩ := zI hE10 hi10 hb10
     simp only [proxy_Chain.l10] at h
     refine rg tok [3, 4, 6, 9, 10, 11, 12] fun K hK => ?_
     simp only [go_sem, rL, rE, hz10]
     refine hK _ _ ?_
     refine zf fun Z12 hZ12 => ?_
     refine zw rfl ?_
     refine zi ?_
     refine hZ12 _ _ ?_
     refine zf fun Z13 hZ13 => ?_
     refine zk ?_
     have f14 := E75.idxS hx10
     have f15 := E75.loadS rfl rfl hx10
     refine rg tok [3, 4, 8, 9, 10, 11] fun K hK => ?_
     simp only [go_sem, rL, rD, rE, rA, encGSchema, f14, f15]
     refine hK _ _ ?_
     refine rc [3, 4, 6, 9, 10, 11] fun K hK => ?_
     obtain ⟨r16, hr16, h⟩ := bind_some h
     refine za tok 2 ?_
     simp only [go_sem, rL, rD, rE, rA, encGPacket]
     refine zh rfl rfl rfl (proxy_Pass.ev y10 m0_4 r16 hr16 _) ?_
     rintro _ _ ⟨rfl, rfl⟩
     refine za tok 5 ?_
     simp only [go_sem, rL, rD, rE, rA, encGPacket]
     refine zb ?_
     simp only [ze, upd, rE, reduceIte, zl, zn]
     refine hK _ _ ?_
     refine rg tok [3, 4, 6, 9, 10, 11, 22] fun K hK => ?_
     simp only [go_sem, rL, rE]
     refine hK _ _ ?_
     refine zr (b := (!r16.2)) rfl (fun hc17 => ?_) (fun hc17 => ?_)
     · rw [if_pos hc17] at h
       refine zy ?_
       exact ⟨_, _, ⟨r16.1, r16.2, rfl, rfl, h⟩, (.t [0, 1] false)⟩
     · rw [if_F hc17] at h
       refine zi ?_
       refine hZ13 _ _ ?_
       refine rgE tok [3, 4, 6, 9, 10, 11] fun K hK => ?_
       simp only [go_sem, rL, rE, hw10]
       refine hK _ _ ?_
       exact ⟨_, _, _, nS q10.length, ⟨p10 ++ [y10], q10, x6 + 1, r16.1, r16.2, rfl, rfl, rfl, hE'10, hi'10, h⟩, (.t [0, 1] false)⟩
 rintro _ _ ⟨m0_1, x2, rfl, rfl, h⟩
 unfold proxy_Chain.j3 at h
 refine rg tok [4, 5] fun K hK => ?_
 simp only [go_sem, rL, rD, rE, rA]
 refine hK _ _ ?_
 refine zj ?_
 obtain rfl := Option.some.inj h
 exact retA
theorem proxy_Chain.ev (a0 : List GSchema) (a1 : GPacket) (r : GPacket × Bool) (h : proxy_Chain a0 a1 = some r) (σ : Store) : ACalls Tryd.prog 28 [.ds true (fM encGSchema a0) (lN a0) false, .agg (encGPacket a1)] σ (fun r' σ' => r' = .tup [.agg (encGPacket r.1), .bool r.2] ∧ σ' = σ) :=
 (proxy_Chain.ok a0 a1 r h).c σ
def law25_ProxyChains.j35 (a0 : List GSchema) (a1 : List GSchema) (a2 : GPacket) (m1_33 : GPacket) (x34 : Bool) : Option Bool :=
 (room (lN a0) 88).bind fun _u37 => (room (lN a0 + lN a1) 88).bind fun _u39 => (proxy_Chain (a0 ++ a1) a2).bind fun r41 => (if ((decide (m1_33.fKind = r41.1.fKind) && (decide (m1_33.fFrom = r41.1.fFrom) && (decide (m1_33.fTo = r41.1.fTo) && (decide (m1_33.fID = r41.1.fID) && (decide (m1_33.fVersion = r41.1.fVersion) && (decide (m1_33.fMethod = r41.1.fMethod) && (decide (m1_33.fErr = r41.1.fErr) && decide (m1_33.fBody = r41.1.fBody)))))))) && (x34 == r41.2)) = true then (law25_awake).bind fun r42 => some r42 else some false).bind fun c42 => some c42
def law25_ProxyChains.l9 (a0 : List GSchema) (a1 : List GSchema) (a2 : GPacket) : Nat → Int → Option Bool
 | 0, _ => none
 | k9 + 1, x7 => (if x7 < IntKind.i64.wrap ((lN a0 : Int) + (lN a1 : Int)) then (if x7 < (lN a0 : Int) then (idxL a0 x7).bind fun y14 => (law00_Few y14).bind fun r17 => some (!r17) else some false).bind fun c14 => (if c14 = true then some true else (if (lN a0 : Int) ≤ x7 then (idxL a1 (IntKind.i64.wrap (x7 - (lN a0 : Int)))).bind fun y21 => (law00_Few y21).bind fun r24 => some (!r24) else some false).bind fun c21 => some c21).bind fun c21 => (if c21 = true then (law25_awake).bind fun r30 => some r30 else ((law25_ProxyChains.l9 a0 a1 a2 k9) (IntKind.i64.wrap (x7 + 1)))) else (proxy_Chain a0 a2).bind fun r32 => (if r32.2 = true then (proxy_Chain a1 r32.1).bind fun r45 => (law25_ProxyChains.j35 a0 a1 a2 r45.1 r45.2) else (law25_ProxyChains.j35 a0 a1 a2 r32.1 r32.2)))
def law25_ProxyChains (a0 : List GSchema) (a1 : List GSchema) (a2 : GPacket) : Option Bool :=
 (if (((decide (4 < (lN a0 : Int))) || (decide (4 < (lN a1 : Int)))) || (decide (5000 < (lN a2.fBody : Int)))) = true then (law25_awake).bind fun r5 => some r5 else (law25_ProxyChains.l9 a0 a1 a2 rounds 0))
theorem law25_ProxyChains.ok (a0 : List GSchema) (a1 : List GSchema) (a2 : GPacket) (r : Bool) (h : law25_ProxyChains a0 a1 a2 = some r) : ACalls Tryd.prog 8 [.ds true (fM encGSchema a0) (lN a0) false, .ds true (fM encGSchema a1) (lN a1) false, .agg (encGPacket a2)] [] (fun r' _ => r' = .bool r) := by
 refine zm (rs := [.tmp 6]) tok Tryd.func8 rfl Tryd.ntmps8 rfl Tryd.call8 (by simp) ?_
 refine zq [(0, .ds true (fM encGSchema a0) (lN a0) false), (1, .ds true (fM encGSchema a1) (lN a1) false), (2, .agg (encGPacket a2))] ⟨rfl, rfl, rfl, trivial⟩ ?_
 unfold law25_ProxyChains at h
 refine rg tok [0, 1, 5] fun K hK => ?_
 simp only [go_sem, rL, rE, rA, reduceCtorEq, encGPacket]
 refine hK _ _ ?_
 refine zf fun Z1 hZ1 => ?_
 refine rc [0, 1, 5, 25] fun K hK => ?_
 refine za tok 4 ?_
 simp only [go_sem, rL, rE, reduceCtorEq]
 refine zo 4 (fun L τ => L = ([(0, .ds true (fM encGSchema a0) (lN a0) false), (1, .ds true (fM encGSchema a1) (lN a1) false), (5, .op 0 0 0), (19, .bool ((decide (4 < (lN a0 : Int))) || (decide (4 < (lN a1 : Int)))))] : List (Nat × AV)) ∧ τ = ([.cells 0 [.int .i64 a2.fKind, .int .i64 a2.fFrom, .int .i64 a2.fTo, .int .i64 a2.fID, .int .i64 a2.fVersion, .str a2.fMethod, .int .i64 a2.fErr, .str a2.fBody]] : Store)) ?_ ?_
 · refine zV 15 rfl (fun hg15 => ?_) (fun hg15 => ?_)
   · have t2 := eq_true hg15
     refine za tok 4 ?_
     simp only [go_sem, rL, rE, reduceCtorEq]
     refine zb ⟨rfl, _, _, ⟨rfl, rfl⟩, .p t2⟩
   · have t3 := eq_false hg15
     refine za tok 4 ?_
     simp only [go_sem, rL, rE, reduceCtorEq]
     refine zb ⟨rfl, _, _, ⟨rfl, rfl⟩, .p t3⟩
 rintro _ _ ⟨rfl, rfl⟩
 refine za tok 1 ?_
 simp only [go_sem, rL, rE, reduceCtorEq]
 refine zo 5 (fun L τ => L = ([(0, .ds true (fM encGSchema a0) (lN a0) false), (1, .ds true (fM encGSchema a1) (lN a1) false), (5, .op 0 0 0), (25, .bool (((decide (4 < (lN a0 : Int))) || (decide (4 < (lN a1 : Int)))) || (decide (5000 < (lN a2.fBody : Int)))))] : List (Nat × AV)) ∧ τ = ([.cells 0 [.int .i64 a2.fKind, .int .i64 a2.fFrom, .int .i64 a2.fTo, .int .i64 a2.fID, .int .i64 a2.fVersion, .str a2.fMethod, .int .i64 a2.fErr, .str a2.fBody]] : Store)) ?_ ?_
 · refine zG (b := ((decide (4 < (lN a0 : Int))) || (decide (4 < (lN a1 : Int))))) 20 rfl (fun hg20 => ?_) (fun hg20 => ?_)
   · refine za tok 5 ?_
     simp only [go_sem, rL, rE, reduceCtorEq]
     refine zb ⟨rfl, _, _, ⟨rfl, rfl⟩, .b hg20⟩
   · refine za tok 5 ?_
     simp only [go_sem, rL, rE, rA, reduceCtorEq]
     refine zb ⟨rfl, _, _, ⟨rfl, rfl⟩, .b hg20⟩
 rintro _ _ ⟨rfl, rfl⟩
 refine zb ?_
 simp only [ze, rE, reduceIte, zl, zn]
 refine hK _ _ ?_
 refine zr (b := (((decide (4 < (lN a0 : Int))) || (decide (4 < (lN a1 : Int)))) || (decide (5000 < (lN a2.fBody : Int))))) rfl (fun hc4 => ?_) (fun hc4 => ?_)
 · rw [if_pos hc4] at h
   refine rc [6] fun K hK => ?_
   obtain ⟨r5, hr5, h⟩ := bind_some h
   refine zh rfl rfl rfl (law25_awake.ev  r5 hr5 _) ?_
   rintro _ _ ⟨rfl, rfl⟩
   refine za tok 1 ?_
   simp only [go_sem, rL, rE, reduceCtorEq]
   refine zb ?_
   simp only [ze, upd, rE, reduceIte, zl, zn]
   refine hK _ _ ?_
   refine zj ?_
   obtain rfl := Option.some.inj h
   exact retA
 · rw [if_F hc4] at h
   refine zi ?_
   refine hZ1 _ _ ?_
   refine zf fun Z6 hZ6 => ?_
   refine rg tok [0, 1, 5, 7] fun K hK => ?_
   simp only [go_sem, rL, rE, reduceCtorEq]
   refine hK _ _ ?_
   refine zk ?_
   refine zx (fun m L τ => ∃ (k9 : Nat) (x7 : Int), m = 0 + k9 ∧ L = ([(0, .ds true (fM encGSchema a0) (lN a0) false), (1, .ds true (fM encGSchema a1) (lN a1) false), (5, .op 0 0 0), (7, .int .i64 x7)] : List (Nat × AV)) ∧ τ = ([.cells 0 [.int .i64 a2.fKind, .int .i64 a2.fFrom, .int .i64 a2.fTo, .int .i64 a2.fID, .int .i64 a2.fVersion, .str a2.fMethod, .int .i64 a2.fErr, .str a2.fBody]] : Store) ∧ law25_ProxyChains.l9 a0 a1 a2 k9 x7 = some r) _ ⟨rounds, 0, rfl, rfl, rfl, h⟩ .s ?_
   rintro m L τ ⟨k9, x7, rfl, rfl, rfl, h⟩
   rcases k9 with _ | k9
   · cases h
   · simp only [law25_ProxyChains.l9] at h
     refine zf fun Z10 hZ10 => ?_
     refine rg tok [0, 1, 5, 7, 33] fun K hK => ?_
     simp only [go_sem, rL, rE, reduceCtorEq]
     refine hK _ _ ?_
     refine zz rfl (fun hc11 => ?_) (fun hc11 => ?_)
     · rw [if_pos hc11] at h
       have t12 := eq_true hc11
       refine zi ?_
       refine hZ10 _ _ ?_
       refine zf fun Z13 hZ13 => ?_
       refine zk ?_
       refine rc [0, 1, 5, 7, 64] fun K hK => ?_
       refine za tok 5 ?_
       simp only [go_sem, rL, rE, reduceCtorEq, t12]
       obtain ⟨c14, hc14, h⟩ := bind_some h
       refine zo 7 (fun L τ => L = ([(0, .ds true (fM encGSchema a0) (lN a0) false), (1, .ds true (fM encGSchema a1) (lN a1) false), (5, .op 0 0 0), (7, .int .i64 x7), (47, .bool c14)] : List (Nat × AV)) ∧ τ = ([.cells 0 [.int .i64 a2.fKind, .int .i64 a2.fFrom, .int .i64 a2.fTo, .int .i64 a2.fID, .int .i64 a2.fVersion, .str a2.fMethod, .int .i64 a2.fErr, .str a2.fBody]] : Store)) ?_ ?_
       · refine zV 40 rfl (fun hg40 => ?_) (fun hg40 => ?_)
         · have t15 := eq_true hg40
           rw [if_pos hg40] at hc14
           obtain ⟨y16, hy16, hc14⟩ := bind_some hc14
           have f17 := E75.idxS hy16
           have f18 := E75.loadS rfl rfl hy16
           obtain ⟨r19, hr19, hc14⟩ := bind_some hc14
           refine za tok 4 ?_
           simp only [go_sem, rL, rE, reduceCtorEq, encGSchema, f17, f18]
           refine zh rfl rfl rfl (law00_Few.ev y16 r19 hr19 _) ?_
           rintro _ _ ⟨rfl, rfl⟩
           refine za tok 2 ?_
           simp only [go_sem, rL, rE, reduceCtorEq]
           obtain rfl := Option.some.inj hc14
           refine zb ⟨rfl, _, _, ⟨rfl, rfl⟩, .p t15⟩
         · have t20 := eq_false hg40
           rw [if_neg hg40] at hc14
           refine za tok 7 ?_
           simp only [go_sem, rL, rE, reduceCtorEq]
           obtain rfl := Option.some.inj hc14
           refine zb ⟨rfl, _, _, ⟨rfl, rfl⟩, .p t20⟩
       rintro _ _ ⟨rfl, rfl⟩
       refine za tok 1 ?_
       simp only [go_sem, rL, rE, reduceCtorEq]
       obtain ⟨c21, hc21, h⟩ := bind_some h
       refine zo 16 (fun L τ => L = ([(0, .ds true (fM encGSchema a0) (lN a0) false), (1, .ds true (fM encGSchema a1) (lN a1) false), (5, .op 0 0 0), (7, .int .i64 x7), (64, .bool c21)] : List (Nat × AV)) ∧ τ = ([.cells 0 [.int .i64 a2.fKind, .int .i64 a2.fFrom, .int .i64 a2.fTo, .int .i64 a2.fID, .int .i64 a2.fVersion, .str a2.fMethod, .int .i64 a2.fErr, .str a2.fBody]] : Store)) ?_ ?_
       · refine zG (b := c14) 48 rfl (fun hg48 => ?_) (fun hg48 => ?_)
         · rw [if_pos hg48] at hc21
           refine za tok 10 ?_
           simp only [go_sem, rL, rE, reduceCtorEq]
           refine za tok 6 ?_
           simp only [go_sem, rL, rE, reduceCtorEq]
           obtain rfl := Option.some.inj hc21
           refine zb ⟨rfl, _, _, ⟨rfl, rfl⟩, .b hg48⟩
         · rw [if_F hg48] at hc21
           refine za tok 5 ?_
           simp only [go_sem, rL, rE, reduceCtorEq]
           obtain ⟨c22, hc22, hc21⟩ := bind_some hc21
           refine zo 10 (fun L τ => L = ([(0, .ds true (fM encGSchema a0) (lN a0) false), (1, .ds true (fM encGSchema a1) (lN a1) false), (5, .op 0 0 0), (7, .int .i64 x7), (48, .bool false), (63, .bool c22)] : List (Nat × AV)) ∧ τ = ([.cells 0 [.int .i64 a2.fKind, .int .i64 a2.fFrom, .int .i64 a2.fTo, .int .i64 a2.fID, .int .i64 a2.fVersion, .str a2.fMethod, .int .i64 a2.fErr, .str a2.fBody]] : Store)) ?_ ?_
           · refine zV 53 rfl (fun hg53 => ?_) (fun hg53 => ?_)
             · have t23 := eq_true hg53
               rw [if_pos hg53] at hc22
               obtain ⟨y24, hy24, hc22⟩ := bind_some hc22
               have f25 := E75.idxS hy24
               have f26 := E75.loadS rfl rfl hy24
               obtain ⟨r27, hr27, hc22⟩ := bind_some hc22
               refine za tok 7 ?_
               simp only [go_sem, rL, rE, reduceCtorEq, encGSchema, f25, f26]
               refine zh rfl rfl rfl (law00_Few.ev y24 r27 hr27 _) ?_
               rintro _ _ ⟨rfl, rfl⟩
               refine za tok 2 ?_
               simp only [go_sem, rL, rE, reduceCtorEq]
               obtain rfl := Option.some.inj hc22
               refine zb ⟨rfl, _, _, ⟨rfl, rfl⟩, .p t23⟩
             · have t28 := eq_false hg53
               rw [if_neg hg53] at hc22
               refine za tok 10 ?_
               simp only [go_sem, rL, rE, reduceCtorEq]
               obtain rfl := Option.some.inj hc22
               refine zb ⟨rfl, _, _, ⟨rfl, rfl⟩, .p t28⟩
           rintro _ _ ⟨rfl, rfl⟩
           refine za tok 1 ?_
           simp only [go_sem, rL, rE, reduceCtorEq]
           obtain rfl := Option.some.inj hc21
           refine zb ⟨rfl, _, _, ⟨rfl, rfl⟩, .b hg48⟩
       rintro _ _ ⟨rfl, rfl⟩
       refine zb ?_
       simp only [ze, rE, reduceIte, zl, zn]
       refine hK _ _ ?_
       refine zr (b := c21) rfl (fun hc29 => ?_) (fun hc29 => ?_)
       · rw [if_pos hc29] at h
         refine rc [6] fun K hK => ?_
         obtain ⟨r30, hr30, h⟩ := bind_some h
         refine zh rfl rfl rfl (law25_awake.ev  r30 hr30 _) ?_
         rintro _ _ ⟨rfl, rfl⟩
         refine za tok 1 ?_
         simp only [go_sem, rL, rE, reduceCtorEq]
         refine zb ?_
         simp only [ze, upd, rE, reduceIte, zl, zn]
         refine hK _ _ ?_
         refine zj ?_
         obtain rfl := Option.some.inj h
         exact retA
       · rw [if_F hc29] at h
         refine zi ?_
         refine hZ13 _ _ ?_
         refine rgE tok [0, 1, 5, 7] fun K hK => ?_
         simp only [go_sem, rL, rE, reduceCtorEq]
         refine hK _ _ ?_
         exact ⟨_, _, _, nS (0 + k9), ⟨k9, IntKind.i64.wrap (x7 + 1), rfl, rfl, rfl, h⟩, .s⟩
     · rw [if_neg hc11] at h
       have t31 := eq_false hc11
       refine zy ?_
       refine hZ6 _ _ ?_
       refine rc [0, 1, 5, 8, 9] fun K hK => ?_
       obtain ⟨r32, hr32, h⟩ := bind_some h
       refine za tok 2 ?_
       simp only [go_sem, rL, rD, rE, rA, reduceCtorEq, t31]
       refine zh rfl rfl rfl (proxy_Chain.ev a0 a2 r32 hr32 _) ?_
       rintro _ _ ⟨rfl, rfl⟩
       refine za tok 6 ?_
       simp only [go_sem, rL, rD, rE, rA, reduceCtorEq, encGPacket]
       refine zb ?_
       simp only [ze, upd, rE, reduceIte, zl, zn]
       refine hK _ _ ?_
       refine zp1 (fun L τ => ∃ (m1_33 : GPacket) (x34 : Bool), L = ([(0, .ds true (fM encGSchema a0) (lN a0) false), (1, .ds true (fM encGSchema a1) (lN a1) false), (5, .op 0 0 0), (8, .op 1 0 0), (9, .bool x34)] : List (Nat × AV)) ∧ τ = ([.cells 0 [.int .i64 a2.fKind, .int .i64 a2.fFrom, .int .i64 a2.fTo, .int .i64 a2.fID, .int .i64 a2.fVersion, .str a2.fMethod, .int .i64 a2.fErr, .str a2.fBody], .cells 0 [.int .i64 m1_33.fKind, .int .i64 m1_33.fFrom, .int .i64 m1_33.fTo, .int .i64 m1_33.fID, .int .i64 m1_33.fVersion, .str m1_33.fMethod, .int .i64 m1_33.fErr, .str m1_33.fBody]] : Store) ∧ law25_ProxyChains.j35 a0 a1 a2 m1_33 x34 = some r) ?_ ?_
       · refine rg tok [0, 1, 5, 8, 9, 72] fun K hK => ?_
         simp only [go_sem, rL, rE, reduceCtorEq]
         refine hK _ _ ?_
         refine zr (b := r32.2) rfl (fun hc44 => ?_) (fun hc44 => ?_)
         · rw [if_pos hc44] at h
           refine rcE [0, 1, 5, 8, 9] fun K hK => ?_
           obtain ⟨r45, hr45, h⟩ := bind_some h
           refine za tok 2 ?_
           simp only [go_sem, rL, rD, rE, rA, reduceCtorEq]
           refine zh rfl rfl rfl (proxy_Chain.ev a1 r32.1 r45 hr45 _) ?_
           rintro _ _ ⟨rfl, rfl⟩
           refine za tok 5 ?_
           simp only [go_sem, rL, rD, rE, rA, reduceCtorEq, encGPacket]
           refine zb ?_
           simp only [ze, upd, rE, reduceIte, zl, zn]
           refine hK _ _ ?_
           exact ⟨_, _, ⟨r45.1, r45.2, rfl, rfl, h⟩, .s⟩
         · rw [if_F hc44] at h
           refine zi ?_
           exact ⟨_, _, ⟨r32.1, r32.2, rfl, rfl, h⟩, .s⟩
       rintro _ _ ⟨m1_33, x34, rfl, rfl, h⟩
       unfold law25_ProxyChains.j35 at h
       have f36 := fun nl tt σ => zB1 E75.len a0 nl tt σ
       obtain ⟨_u37, hu37, h⟩ := bind_some h
       have gu37 := zU hu37
       have f38 := fun nl tt σ => zB1 E75.len a1 nl tt σ
       obtain ⟨_u39, hu39, h⟩ := bind_some h
       have gu39 := zU hu39
       have f40 := (zv E75.len a0)
       obtain ⟨r41, hr41, h⟩ := bind_some h
       refine rd [8, 9, 10, 11] fun K hK => ?_
       refine DW.start (T := tab) [.any, .eff, .any, .eff, .own 2 [], .eff, .any, .any, .any, .flt, .eff, .any] [(2, [])] ?_
       refine DW.runN tok 5 ?_
       simp only [go_sem, rL, rD, rE, rA, reduceCtorEq, zM, zH, zJ, true_and, f36, gu37, f38, gu39, f40, zT3, nA, lC, lZ, nZ, cA]
       refine DW.call rfl rfl rfl (proxy_Chain.ok (a0 ++ a1) a2 r41 hr41).ld ?_
       refine DW.runN tok 6 ?_
       simp only [go_sem, rL, rD, rE, rA, reduceCtorEq, encGPacket, List.all_nil, List.all_cons, AV.one, Bool.and_self, nA, lC, lZ, nZ, cA]
       refine DW.fin tok (by decide +kernel) rfl ?_
       simp only [ze, upd, rE, reduceIte, zl, zn]
       refine hK _ _ ?_
       refine zL (L := [(8, .op 1 0 0), (9, .bool x34), (10, .op 3 0 0), (11, .bool r41.2)]) (τ := [.cells 0 [.int .i64 a2.fKind, .int .i64 a2.fFrom, .int .i64 a2.fTo, .int .i64 a2.fID, .int .i64 a2.fVersion, .str a2.fMethod, .int .i64 a2.fErr, .str a2.fBody], .cells 0 [.int .i64 m1_33.fKind, .int .i64 m1_33.fFrom, .int .i64 m1_33.fTo, .int .i64 m1_33.fID, .int .i64 m1_33.fVersion, .str m1_33.fMethod, .int .i64 m1_33.fErr, .str m1_33.fBody], .cells (0 + 1) (fM encGSchema (a0 ++ a1)), .cells 0 [.int .i64 r41.1.fKind, .int .i64 r41.1.fFrom, .int .i64 r41.1.fTo, .int .i64 r41.1.fID, .int .i64 r41.1.fVersion, .str r41.1.fMethod, .int .i64 r41.1.fErr, .str r41.1.fBody]]) .s ?_
       refine rc [6] fun K hK => ?_
       refine za tok 4 ?_
       simp only [go_sem, rL, rD, rE, rA, evEqA, ceqL, ceq]
       refine zo 4 (fun L τ => L = ([(95, .bool ((decide (m1_33.fKind = r41.1.fKind) && (decide (m1_33.fFrom = r41.1.fFrom) && (decide (m1_33.fTo = r41.1.fTo) && (decide (m1_33.fID = r41.1.fID) && (decide (m1_33.fVersion = r41.1.fVersion) && (decide (m1_33.fMethod = r41.1.fMethod) && (decide (m1_33.fErr = r41.1.fErr) && decide (m1_33.fBody = r41.1.fBody)))))))) && (x34 == r41.2)))] : List (Nat × AV)) ∧ τ = ([.cells 0 [.int .i64 a2.fKind, .int .i64 a2.fFrom, .int .i64 a2.fTo, .int .i64 a2.fID, .int .i64 a2.fVersion, .str a2.fMethod, .int .i64 a2.fErr, .str a2.fBody], .cells 0 [.int .i64 m1_33.fKind, .int .i64 m1_33.fFrom, .int .i64 m1_33.fTo, .int .i64 m1_33.fID, .int .i64 m1_33.fVersion, .str m1_33.fMethod, .int .i64 m1_33.fErr, .str m1_33.fBody], .cells (0 + 1) (fM encGSchema (a0 ++ a1)), .cells 0 [.int .i64 r41.1.fKind, .int .i64 r41.1.fFrom, .int .i64 r41.1.fTo, .int .i64 r41.1.fID, .int .i64 r41.1.fVersion, .str r41.1.fMethod, .int .i64 r41.1.fErr, .str r41.1.fBody]] : Store)) ?_ ?_
       · refine zG (b := (decide (m1_33.fKind = r41.1.fKind) && (decide (m1_33.fFrom = r41.1.fFrom) && (decide (m1_33.fTo = r41.1.fTo) && (decide (m1_33.fID = r41.1.fID) && (decide (m1_33.fVersion = r41.1.fVersion) && (decide (m1_33.fMethod = r41.1.fMethod) && (decide (m1_33.fErr = r41.1.fErr) && decide (m1_33.fBody = r41.1.fBody))))))))) 91 rfl (fun hg91 => ?_) (fun hg91 => ?_)
         · refine za tok 4 ?_
           simp only [go_sem, rL, rE, evEq]
           refine zb ⟨rfl, _, _, ⟨rfl, rfl⟩, .b hg91⟩
         · refine za tok 4 ?_
           simp only [go_sem, rL, rE]
           refine zb ⟨rfl, _, _, ⟨rfl, rfl⟩, .b hg91⟩
       rintro _ _ ⟨rfl, rfl⟩
       refine za tok 1 ?_
       simp only [go_sem, rL]
       obtain ⟨c42, hc42, h⟩ := bind_some h
       refine zo 2 (fun L τ => L = ([(98, .bool c42)] : List (Nat × AV)) ∧ τ = ([.cells 0 [.int .i64 a2.fKind, .int .i64 a2.fFrom, .int .i64 a2.fTo, .int .i64 a2.fID, .int .i64 a2.fVersion, .str a2.fMethod, .int .i64 a2.fErr, .str a2.fBody], .cells 0 [.int .i64 m1_33.fKind, .int .i64 m1_33.fFrom, .int .i64 m1_33.fTo, .int .i64 m1_33.fID, .int .i64 m1_33.fVersion, .str m1_33.fMethod, .int .i64 m1_33.fErr, .str m1_33.fBody], .cells (0 + 1) (fM encGSchema (a0 ++ a1)), .cells 0 [.int .i64 r41.1.fKind, .int .i64 r41.1.fFrom, .int .i64 r41.1.fTo, .int .i64 r41.1.fID, .int .i64 r41.1.fVersion, .str r41.1.fMethod, .int .i64 r41.1.fErr, .str r41.1.fBody]] : Store)) ?_ ?_
       · refine zG (b := ((decide (m1_33.fKind = r41.1.fKind) && (decide (m1_33.fFrom = r41.1.fFrom) && (decide (m1_33.fTo = r41.1.fTo) && (decide (m1_33.fID = r41.1.fID) && (decide (m1_33.fVersion = r41.1.fVersion) && (decide (m1_33.fMethod = r41.1.fMethod) && (decide (m1_33.fErr = r41.1.fErr) && decide (m1_33.fBody = r41.1.fBody)))))))) && (x34 == r41.2))) 96 rfl (fun hg96 => ?_) (fun hg96 => ?_)
         · rw [if_pos hg96] at hc42
           obtain ⟨r43, hr43, hc42⟩ := bind_some hc42
           refine zh rfl rfl rfl (law25_awake.ev  r43 hr43 _) ?_
           rintro _ _ ⟨rfl, rfl⟩
           refine za tok 1 ?_
           simp only [go_sem, rL, rE]
           obtain rfl := Option.some.inj hc42
           refine zb ⟨rfl, _, _, ⟨rfl, rfl⟩, .b hg96⟩
         · rw [if_F hg96] at hc42
           refine za tok 2 ?_
           simp only [go_sem, rL, rE]
           obtain rfl := Option.some.inj hc42
           refine zb ⟨rfl, _, _, ⟨rfl, rfl⟩, .b hg96⟩
       rintro _ _ ⟨rfl, rfl⟩
       refine za tok 1 ?_
       simp only [go_sem, rL]
       refine zb ?_
       simp only [ze, upd, rE, reduceIte, zl, zn]
       refine hK _ _ ?_
       refine zj ?_
       obtain rfl := Option.some.inj h
       exact retA
end Go.Proofs.YtaddlmlpeghonaaDoor
end
section
set_option maxRecDepth 4000
namespace Go.Proofs.YtaddlmlpeghonaaDoor
open AM
def vb (n : Nat) : List UInt8 := if h : n < 128 then [UInt8.ofNat n] else UInt8.ofNat (n % 128 + 128) :: vb (n / 128)
termination_by n
decreasing_by omega
theorem vb_lt {n : Nat} (h : n < 128) : vb n = [UInt8.ofNat n] := by rw [vb, dif_pos h]
theorem vb_ge {n : Nat} (h : ¬ n < 128) : vb n = UInt8.ofNat (n % 128 + 128) :: vb (n / 128) := by rw [vb, dif_neg h]
theorem vb_pos (n : Nat) : 0 < (vb n).length := by
 by_cases h : n < 128
 · rw [vb_lt h]; exact Nat.one_pos
 · rw [vb_ge h, lC]; omega
theorem vb_len : ∀ (k n : Nat), n < 2 ^ (7 * (k + 1)) → (vb n).length ≤ k + 1
 | 0, n, h => by rw [vb_lt (by simpa using h)]; exact nR _
 | k + 1, n, h => by
  by_cases h1 : n < 128
  · rw [vb_lt h1, lC, lZ]; omega
  · rw [vb_ge h1, lC]
    have := vb_len k (n / 128) (by
     have e : 2 ^ (7 * (k + 1 + 1)) = 128 * 2 ^ (7 * (k + 1)) := by rw [show 7 * (k + 1 + 1) = 7 + 7 * (k + 1) by omega, Nat.pow_add]
     rw [e] at h
     exact Nat.div_lt_of_lt_mul h)
    omega
theorem vb_len10 {n : Nat} (h : n < 2 ^ 64) : (vb n).length ≤ 10 := vb_len 9 n (Nat.lt_of_lt_of_le h (by decide))
theorem zI3 {p : Prop} [Decidable p] (h : p) : grd p = some () := if_pos h
theorem zM1 {n b : Nat} (h : n * b ≤ 140737488355328) : room n b = some () := if_pos h
theorem u64w {n : Nat} (h : n < 2 ^ 64) : IntKind.u64.wrap (n : Int) = (n : Int) := by rw [IntKind.wrap_u64]; omega
theorem u64i {x : Int} (h : 0 ≤ x) (h' : x < 18446744073709551616) : IntKind.u64.wrap x = x := by rw [IntKind.wrap_u64]; omega
theorem u8w (n : Nat) : IntKind.u8.wrap (n : Int) = ((n % 256 : Nat) : Int) := by
 simp only [IntKind.wrap, IntKind.bits, IntKind.signed, Bool.false_and]
 simp
theorem zw4 (n : Nat) (h : n < 256) : (UInt8.ofNat n).toNat = n := by
 rw [UInt8.toNat_ofNat']; omega
theorem or128 : ∀ m : Fin 256, (BitVec.ofInt 8 ((m.val : Nat) : Int) ||| BitVec.ofInt 8 128).toNat = m.val % 128 + 128 := by decide
theorem and127 : ∀ m : Fin 256, (BitVec.ofInt 8 ((m.val : Nat) : Int) &&& ~~~(BitVec.ofInt 8 128)).toNat = m.val % 128 := by decide
theorem moreByte (n : Nat) : UInt8.ofNat (Int.toNat (IntKind.u8.wrap ((BitVec.toNat (BitVec.ofInt 8 (IntKind.u8.wrap (n : Int)) ||| BitVec.ofInt 8 128) : Nat) : Int))) = UInt8.ofNat (n % 128 + 128) := by
 have h := or128 ⟨n % 256, Nat.mod_lt _ (by decide)⟩
 simp only at h
 rw [u8w n, h, u8w (n % 256 % 128 + 128), Int.toNat_natCast]
 congr 1
 have := Nat.mod_mod_of_dvd n (show 128 ∣ 256 by decide)
 omega
theorem lastByte (n : Nat) (h : n < 128) : UInt8.ofNat (Int.toNat (IntKind.u8.wrap (n : Int))) = UInt8.ofNat n := by
 rw [u8w, Int.toNat_natCast]; congr 1; omega
theorem shr7 (n : Nat) : Int.fdiv (n : Int) (2 ^ (min (Int.toNat 7) 64)) = ((n / 128 : Nat) : Int) := by
 rw [show ((2 : Int) ^ (min (Int.toNat 7) 64)) = 128 from by decide, Int.fdiv_eq_ediv_of_nonneg _ (by decide)]
 omega
theorem vint_Put_l : ∀ (k n : Nat) (l : List UInt8), n < 2 ^ (7 * k) → l.length + k ≤ 140737488355328 → vint_Put.l9 k l (n : Int) = some (l ++ vb n) ∨ k = 0
 | 0, _, _, _, _ => Or.inr rfl
 | k + 1, n, l, h, hl => by
  left
  by_cases h1 : n < 128
  · rw [vint_Put.l9, if_neg (by omega), zM1 (by omega), bS, lastByte n h1, vb_lt h1]
  · rw [vint_Put.l9, if_pos (by omega), zM1 (by omega), bS, moreByte, shr7, vb_ge h1]
    have hk : n / 128 < 2 ^ (7 * k) := by
     have e : 2 ^ (7 * (k + 1)) = 128 * 2 ^ (7 * k) := by rw [show 7 * (k + 1) = 7 + 7 * k by omega, Nat.pow_add]
     rw [e] at h; exact Nat.div_lt_of_lt_mul h
    rcases vint_Put_l k (n / 128) (l ++ [UInt8.ofNat (n % 128 + 128)]) hk (by rw [lP, List.length_singleton]; omega) with e | e
    · rw [e, aA]; rfl
    · exfalso; subst e; simp at hk; omega
theorem vint_Put_m : ∀ (k j n : Nat) (l r : List UInt8), vint_Put.l9 k l (n : Int) = some r → vint_Put.l9 (k + j) l (n : Int) = some r
 | 0, _, _, _, _, h => by cases h
 | k + 1, j, n, l, r, h => by
  rw [Nat.succ_add_eq_add_succ, Nat.add_succ]
  by_cases h1 : (128 : Int) ≤ (n : Int)
  · rw [vint_Put.l9, if_pos h1] at h ⊢
    cases hr : room (lN l + 1) 1 with
    | none => rw [hr] at h; cases h
    | some u =>
     rw [hr, bS, shr7] at h
     rw [bS, shr7]; exact vint_Put_m k j _ _ _ h
  · rw [vint_Put.l9, if_neg h1] at h ⊢; exact h
theorem zE3 (a : List UInt8) {n : Nat} (h : n < 2 ^ 64) (ha : a.length ≤ 140737488355000) : vint_Put a (n : Int) = some (a ++ vb n) := by
 by_cases h1 : n < 128
 · rw [vint_Put, if_neg (by omega), zM1 (by omega), bS, lastByte n h1, vb_lt h1]
 · rw [vint_Put, if_pos (by omega), zM1 (by omega), bS, moreByte, shr7, vb_ge h1]
   rcases vint_Put_l 10 (n / 128) (a ++ [UInt8.ofNat (n % 128 + 128)]) (by omega) (by rw [lP, List.length_singleton]; omega) with e | e
   · have := vint_Put_m 10 999999999999999999990 _ _ _ e
     rw [show 10 + 999999999999999999990 = rounds from rfl] at this
     rw [this, aA]; rfl
   · cases e
theorem orAdd {i acc d : Nat} (h : acc < 2 ^ i) : acc ||| d * 2 ^ i = acc + d * 2 ^ i := by
 rw [Nat.or_comm, Nat.mul_comm, ← Nat.two_pow_add_eq_or_of_lt h]; omega
theorem bv64 {n : Nat} (h : n < 2 ^ 64) : (BitVec.ofInt 64 (n : Int)).toNat = n := by
 rw [BitVec.ofInt_natCast, BitVec.toNat_ofNat]; exact Nat.mod_eq_of_lt h
theorem stepv {acc i : Nat} {y : UInt8} (hi : i ≤ 9) (ha : acc < 2 ^ (7 * i)) (h9 : i = 9 → y.toNat ≤ 1) : IntKind.u64.wrap ((BitVec.toNat (BitVec.ofInt 64 (acc : Int) ||| BitVec.ofInt 64 (IntKind.u64.wrap ((IntKind.u64.wrap (IntKind.u8.wrap ((BitVec.toNat (BitVec.ofInt 8 (y.toNat : Int) &&& ~~~(BitVec.ofInt 8 128)) : Nat) : Int))) * 2 ^ (min (Int.toNat (IntKind.i64.wrap (7 * (i : Int)))) 64)))) : Nat) : Int) = ((acc + (y.toNat % 128) * 2 ^ (7 * i) : Nat) : Int) ∧ acc + (y.toNat % 128) * 2 ^ (7 * i) < 2 ^ 64 ∧ (i < 9 → acc + (y.toNat % 128) * 2 ^ (7 * i) < 2 ^ (7 * (i + 1))) := by
 have hy : y.toNat < 256 := y.toNat_lt
 have h := and127 ⟨y.toNat, hy⟩
 simp only at h
 have e : IntKind.i64.wrap (7 * (i : Int)) = ((7 * i : Nat) : Int) := by rw [zW (by omega) (by omega)]; omega
 have hm : min (7 * i) 64 = 7 * i := by omega
 have hd : y.toNat % 128 < 128 := Nat.mod_lt _ (by decide)
 have hp : 2 ^ (7 * (i + 1)) = 128 * 2 ^ (7 * i) := by rw [show 7 * (i + 1) = 7 + 7 * i by omega, Nat.pow_add]
 have hs : i < 9 → acc + (y.toNat % 128) * 2 ^ (7 * i) < 2 ^ (7 * (i + 1)) := by
  intro _
  rw [hp]
  have : (y.toNat % 128) * 2 ^ (7 * i) ≤ 127 * 2 ^ (7 * i) := Nat.mul_le_mul_right _ (by omega)
  omega
 have hb : acc + (y.toNat % 128) * 2 ^ (7 * i) < 2 ^ 64 := by
  by_cases h8 : i < 9
  · have := hs h8
    have h2 : 2 ^ (7 * (i + 1)) ≤ 2 ^ 63 := Nat.pow_le_pow_right (by decide) (by omega)
    omega
  · have hi9 : i = 9 := by omega
    have h1 := h9 hi9
    subst hi9
    have : y.toNat % 128 ≤ 1 := by omega
    have h2 : (y.toNat % 128) * 2 ^ (7 * 9) ≤ 1 * 2 ^ (7 * 9) := Nat.mul_le_mul_right _ this
    omega
 refine ⟨?_, hb, hs⟩
 rw [h, u8w, Nat.mod_eq_of_lt (show y.toNat % 128 < 256 by omega), e, Int.toNat_natCast, hm]
 have hc : ((((y.toNat % 128 : Nat) : Int)) * 2 ^ (7 * i)) = (((y.toNat % 128) * 2 ^ (7 * i) : Nat) : Int) := by
  rw [Int.natCast_mul, Int.natCast_pow]; rfl
 have hu : IntKind.u64.wrap ((y.toNat % 128 : Nat) : Int) = ((y.toNat % 128 : Nat) : Int) := u64w (by omega)
 rw [hu, hc, u64w (n := y.toNat % 128 * 2 ^ (7 * i)) (by omega), BitVec.toNat_or, bv64 (by omega), bv64 (by omega), orAdd ha, u64w hb]
theorem zU4 (a : Nat) (hA : a ≤ 4611686018427387904) : ∀ (q post : List UInt8) (v i acc : Nat), q = vb v ++ post → i ≤ 9 → acc < 2 ^ (7 * i) → v * 2 ^ (7 * i) < 2 ^ 64 → (0 < i → v ≠ 0) →
 vint_Get.l12 (a : Int) q (i : Int) (acc : Int) = some (((acc + v * 2 ^ (7 * i) : Nat) : Int), ((a + i + (vb v).length : Nat) : Int), 0)
 | [], post, v, i, acc, h, _, _, _, _ => by
  have := vb_pos v
  have h2 := congrArg lN h
  rw [lP, lZ] at h2; omega
 | y :: q, post, v, i, acc, h, hi, ha, hv, h0 => by
  by_cases h1 : v < 128
  · rw [vb_lt h1] at h ⊢
    obtain ⟨rfl, rfl⟩ : y = UInt8.ofNat v ∧ q = post := by injection h with h2 h3; exact ⟨h2, h3⟩
    have hy : (UInt8.ofNat v).toNat = v := zw4 v (by omega)
    have h9 : i = 9 → v ≤ 1 := by
     intro e; subst e
     apply Nat.le_of_not_lt; intro hc
     have : 2 * 2 ^ (7 * 9) ≤ v * 2 ^ (7 * 9) := Nat.mul_le_mul_right _ hc
     omega
    have st := (stepv (y := UInt8.ofNat v) hi ha (by rw [hy]; exact h9)).1
    have hw1 : IntKind.i64.wrap (7 * (i : Int)) = 7 * (i : Int) := zW (by omega) (by omega)
    rw [vint_Get.l12, st, hy]
    rw [if_neg (by simp only [Bool.and_eq_true, decide_eq_true_eq, not_and]; intro e; have := h9 (by omega); omega), zI3 (by rw [zW (by omega) (by omega)]; omega), bS, if_neg (by omega), if_neg (by simp only [Bool.and_eq_true, decide_eq_true_eq, not_and]; intro e e2; exact h0 (by omega) (by omega))]
    rw [Nat.mod_eq_of_lt h1, zW (x := (a : Int) + (i : Int)) (by omega) (by omega), zW (x := (a : Int) + (i : Int) + 1) (by omega) (by omega), List.length_singleton]
    simp only [Int.natCast_add, Int.natCast_one]
  · rw [vb_ge h1] at h ⊢
    obtain ⟨rfl, rfl⟩ : y = UInt8.ofNat (v % 128 + 128) ∧ q = vb (v / 128) ++ post := by injection h with h2 h3; exact ⟨h2, h3⟩
    have hy : (UInt8.ofNat (v % 128 + 128)).toNat = v % 128 + 128 := zw4 _ (by omega)
    have hi8 : i < 9 := by
     apply Nat.lt_of_not_le; intro hc
     have : i = 9 := by omega
     subst this
     have : 128 * 2 ^ (7 * 9) ≤ v * 2 ^ (7 * 9) := Nat.mul_le_mul_right _ (by omega)
     omega
    obtain ⟨st, sb, sn⟩ := stepv (y := UInt8.ofNat (v % 128 + 128)) hi ha (by intro e; omega)
    rw [vint_Get.l12, st, hy, if_neg (by simp only [Bool.and_eq_true, decide_eq_true_eq, not_and]; intro e; omega), zI3 (by rw [zW (by omega) (by omega)]; omega), bS, if_pos (by omega)]
    rw [hy] at sn
    have hm : (v % 128 + 128) % 128 = v % 128 := by omega
    rw [hm] at sn ⊢
    have hp : 2 ^ (7 * (i + 1)) = 128 * 2 ^ (7 * i) := by rw [show 7 * (i + 1) = 7 + 7 * i by omega, Nat.pow_add]
    have hvd : v = 128 * (v / 128) + v % 128 := (Nat.div_add_mod v 128).symm
    have hmul : v * 2 ^ (7 * i) = (v / 128) * 2 ^ (7 * (i + 1)) + (v % 128) * 2 ^ (7 * i) := by
     rw [hp]
     calc v * 2 ^ (7 * i) = (128 * (v / 128) + v % 128) * 2 ^ (7 * i) := by rw [← hvd]
      _ = _ := by rw [Nat.add_mul, Nat.mul_comm 128, Nat.mul_assoc]
    have ih := zU4 a hA (vb (v / 128) ++ post) post (v / 128) (i + 1) (acc + v % 128 * 2 ^ (7 * i)) rfl (by omega) (sn hi8) (by rw [hmul] at hv; omega) (by intro _; omega)
    rw [show ((i : Int) + 1) = ((i + 1 : Nat) : Int) by omega, ih, hmul, lC]
    congr 2
    · congr 1; omega
    · congr 2; omega
theorem zT4 (a : Nat) (hA : a ≤ 4611686018427387904) : ∀ (q : List UInt8) (i acc : Nat), i + q.length ≤ 10 → acc < 2 ^ (7 * i) → ∃ r, vint_Get.l12 (a : Int) q (i : Int) (acc : Int) = some r ∧
 (r.2.2 = 0 → ∃ v post, q = vb v ++ post ∧ v * 2 ^ (7 * i) < 2 ^ 64 ∧ (0 < i → v ≠ 0)) ∧ 0 ≤ r.2.2
 | [], i, acc, _, _ => ⟨_, rfl, (by intro h; cases h), by decide⟩
 | y :: q, i, acc, hl, ha => by
  rw [lC] at hl
  rw [vint_Get.l12]
  by_cases h9 : ((decide ((i : Int) = 9)) && (decide (1 < (y.toNat : Int)))) = true
  · rw [if_pos h9]; exact ⟨_, rfl, (by intro h; cases h), by decide⟩
  · rw [if_neg h9]
    have h9' : i = 9 → y.toNat ≤ 1 := by
     intro e
     simp only [Bool.and_eq_true, decide_eq_true_eq, not_and] at h9
     have := h9 (by omega); omega
    obtain ⟨st, sb, sn⟩ := stepv (y := y) (show i ≤ 9 by omega) ha h9'
    rw [st, zI3 (by rw [zW (by omega) (by omega)]; omega), bS]
    have hy : y.toNat < 256 := y.toNat_lt
    by_cases h1 : (128 : Int) ≤ (y.toNat : Int)
    · rw [if_pos h1]
      have hi8 : i < 9 := by
       apply Nat.lt_of_not_le; intro hc
       have := h9' (by omega); omega
      obtain ⟨r, e, hr, h0⟩ := zT4 a hA q (i + 1) (acc + y.toNat % 128 * 2 ^ (7 * i)) (by omega) (sn hi8)
      rw [show ((i : Int) + 1) = ((i + 1 : Nat) : Int) by omega]
      refine ⟨r, e, ?_, h0⟩
      intro hz
      obtain ⟨v, post, hq, hv, hn⟩ := hr hz
      have hp : 2 ^ (7 * (i + 1)) = 128 * 2 ^ (7 * i) := by rw [show 7 * (i + 1) = 7 + 7 * i by omega, Nat.pow_add]
      have hvn := hn (by omega)
      have hw : ¬ (v * 128 + y.toNat % 128) < 128 := by omega
      refine ⟨v * 128 + y.toNat % 128, post, ?_, ?_, by intro _; omega⟩
      · rw [vb_ge hw, show (v * 128 + y.toNat % 128) % 128 + 128 = y.toNat by omega, show (v * 128 + y.toNat % 128) / 128 = v by omega, UInt8.ofNat_toNat, hq]; rfl
      · rw [hp] at hv
        have hmul : (v * 128 + y.toNat % 128) * 2 ^ (7 * i) = v * (128 * 2 ^ (7 * i)) + y.toNat % 128 * 2 ^ (7 * i) := by rw [Nat.add_mul, Nat.mul_assoc]
        rw [hmul]
        by_cases hi7 : i < 9
        · have hd : y.toNat % 128 * 2 ^ (7 * i) < 128 * 2 ^ (7 * i) := Nat.mul_lt_mul_of_pos_right (by omega) (Nat.pow_pos (by decide))
          have h64 : 128 * 2 ^ (7 * i) ∣ 2 ^ 64 := by rw [← hp]; exact Nat.pow_dvd_pow 2 (by omega)
          obtain ⟨c, hc⟩ := h64
          rw [hc] at hv ⊢
          have hvc : v < c := by
           apply Nat.lt_of_not_le; intro hle
           have := Nat.mul_le_mul_right (128 * 2 ^ (7 * i)) hle
           rw [Nat.mul_comm c] at this; omega
          have h3 : (v + 1) * (128 * 2 ^ (7 * i)) ≤ c * (128 * 2 ^ (7 * i)) := Nat.mul_le_mul_right _ hvc
          rw [Nat.add_mul, Nat.one_mul] at h3
          rw [Nat.mul_comm (128 * 2 ^ (7 * i)) c]; omega
        · omega
    · rw [if_neg h1]
      by_cases h2 : ((decide ((y.toNat : Int) = 0)) && (decide (0 < (i : Int)))) = true
      · rw [if_pos h2]; exact ⟨_, rfl, (by intro h; cases h), by decide⟩
      · rw [if_neg h2]
        refine ⟨_, rfl, ?_, Int.le_refl 0⟩
        intro _
        refine ⟨y.toNat, q, ?_, ?_, ?_⟩
        · rw [vb_lt (by omega), UInt8.ofNat_toNat]; rfl
        · rw [Nat.mod_eq_of_lt (by omega)] at sb; omega
        · intro hi e
          apply h2
          simp only [Bool.and_eq_true, decide_eq_true_eq]; omega
theorem get_head {b : List UInt8} {n : Nat} (hb : b.length ≤ 4096) (hn : n ≤ b.length) : vint_Get b (n : Int) = vint_Get.l12 (n : Int) ((b.drop n).take 10) 0 0 := by
 have e1 : IntKind.i64.wrap ((lN b : Int) - (n : Int)) = ((b.length - n : Nat) : Int) := by rw [zW (by omega) (by omega)]; omega
 rw [vint_Get, if_neg (by simp only [Bool.or_eq_true, decide_eq_true_eq]; omega), e1]
 by_cases h : (10 : Int) < ((b.length - n : Nat) : Int)
 · rw [if_pos h]
   have e2 : IntKind.i64.wrap ((n : Int) + 10) = ((n + 10 : Nat) : Int) := by rw [zW (by omega) (by omega)]; omega
   rw [e2, zI3 (by omega), bS, cutL, Int.toNat_natCast, Int.toNat_natCast, show n + 10 - n = 10 by omega]
 · rw [if_neg h]
   have e2 : IntKind.i64.wrap ((n : Int) + ((b.length - n : Nat) : Int)) = (b.length : Int) := by rw [zW (by omega) (by omega)]; omega
   rw [e2, zI3 (by omega), bS, cutL, Int.toNat_natCast, Int.toNat_natCast, List.take_of_length_le (by rw [List.length_drop]; exact nR _), List.take_of_length_le (by rw [List.length_drop]; omega)]
theorem get_ok {b post : List UInt8} {n v : Nat} (hb : b.length ≤ 4096) (hn : n ≤ b.length) (h : b.drop n = vb v ++ post) (hv : v < 2 ^ 64) : vint_Get b (n : Int) = some ((v : Int), ((n + (vb v).length : Nat) : Int), 0) := by
 have := zU4 n (by omega) ((b.drop n).take 10) (post.take (10 - (vb v).length)) v 0 0 (by rw [h, List.take_append, List.take_of_length_le (vb_len10 hv)]) (by omega) (by decide) (by omega) (by omega)
 rw [get_head hb hn]
 simpa using this
theorem get_inv {b : List UInt8} {n : Nat} (hb : b.length ≤ 4096) (hn : n ≤ b.length) : ∃ r, vint_Get b (n : Int) = some r ∧ (r.2.2 = 0 → ∃ v post, b.drop n = vb v ++ post ∧ v < 2 ^ 64 ∧ r = ((v : Int), ((n + (vb v).length : Nat) : Int), 0)) ∧ 0 ≤ r.2.2 := by
 obtain ⟨r, e, hr, h0⟩ := zT4 n (by omega) ((b.drop n).take 10) 0 0 (by rw [List.length_take]; omega) (by decide)
 rw [get_head hb hn]
 refine ⟨r, e, ?_, h0⟩
 intro hz
 obtain ⟨v, post, hq, hv, _⟩ := hr hz
 have hv' : v < 2 ^ 64 := by omega
 have hd : b.drop n = vb v ++ (post ++ (b.drop n).drop 10) := by
  rw [← aA, ← hq, List.take_append_drop]
 refine ⟨v, _, hd, hv', ?_⟩
 have := get_ok hb hn hd hv'
 rw [get_head hb hn] at this
 exact Option.some.inj (e.symm.trans this)
end Go.Proofs.YtaddlmlpeghonaaDoor
end
section
set_option maxRecDepth 4000
namespace Go.Proofs.YtaddlmlpeghonaaDoor
open AM
def In64 (n : Int) : Prop := -9223372036854775808 ≤ n ∧ n < 9223372036854775808
def zg (n : Int) : Nat := if 0 ≤ n then (2 * n).toNat else (-2 * n - 1).toNat
def zu (v : Nat) : Int := if v % 2 = 0 then ((v / 2 : Nat) : Int) else -((v / 2 : Nat) : Int) - 1
theorem zg_lt {n : Int} (h : In64 n) : zg n < 2 ^ 64 := by
 unfold zg; obtain ⟨h1, h2⟩ := h; split <;> omega
theorem zu_zg (n : Int) : zu (zg n) = n := by
 unfold zg zu; split <;> split <;> omega
theorem zg_zu (v : Nat) : zg (zu v) = v := by
 unfold zg zu; split <;> split <;> omega
theorem zu_in {v : Nat} (h : v < 2 ^ 64) : In64 (zu v) := by
 unfold zu In64; split <;> omega
theorem bvm1 : BitVec.ofInt 64 (-1) = BitVec.allOnes 64 := by decide
theorem bv0 : BitVec.ofInt 64 0 = 0#64 := by decide
theorem fdiv2 (n : Int) (k : Nat) : Int.fdiv n (2 ^ k) = n / (2 ^ k) := Int.fdiv_eq_ediv_of_nonneg _ (Int.le_of_lt (Int.pow_pos (by decide)))
theorem vint_Zig_eq {n : Int} (h : In64 n) : vint_Zig n = (zg n : Int) := by
 obtain ⟨h1, h2⟩ := h
 unfold vint_Zig zg
 rw [show min (Int.toNat 1) 64 = 1 from rfl, show min (Int.toNat 63) 64 = 63 from rfl, fdiv2]
 by_cases h0 : 0 ≤ n
 · have e : n / 2 ^ 63 = 0 := Int.ediv_eq_zero_of_lt h0 (by omega)
   rw [if_pos h0, e, show IntKind.u64.wrap 0 = 0 from by rw [IntKind.wrap_u64]; rfl, bv0, BitVec.xor_zero]
   have e2 : IntKind.u64.wrap (IntKind.u64.wrap n * 2 ^ 1) = (((2 * n).toNat : Nat) : Int) := by rw [IntKind.wrap_u64, IntKind.wrap_u64]; omega
   rw [e2, bv64 (by omega), u64w (by omega)]
 · have e : n / 2 ^ 63 = -1 := by omega
   have e1 : IntKind.u64.wrap (-1) = 18446744073709551615 := by rw [IntKind.wrap_u64]; rfl
   have e3 : BitVec.ofInt 64 18446744073709551615 = BitVec.allOnes 64 := by decide
   rw [if_neg h0, e, e1, e3, BitVec.xor_allOnes, BitVec.toNat_not]
   have e2 : IntKind.u64.wrap (IntKind.u64.wrap n * 2 ^ 1) = (((2 * n + 18446744073709551616).toNat : Nat) : Int) := by rw [IntKind.wrap_u64, IntKind.wrap_u64]; omega
   rw [e2, bv64 (by omega), u64w (by omega)]
   omega
theorem vint_Zag_eq {v : Nat} (h : v < 2 ^ 64) : vint_Zag (v : Int) = zu v := by
 unfold vint_Zag zu
 rw [show min (Int.toNat 1) 64 = 1 from rfl, fdiv2]
 have ea : (BitVec.ofInt 64 (v : Int) &&& BitVec.ofInt 64 1).toNat = v % 2 := by
  rw [BitVec.toNat_and, bv64 h, show (BitVec.ofInt 64 1).toNat = 1 from by decide, Nat.and_one_is_mod]
 have e1 : IntKind.i64.wrap ((v : Int) / 2 ^ 1) = ((v / 2 : Nat) : Int) := by rw [zW (by omega) (by omega)]; omega
 rw [ea, e1, u64w (n := v % 2) (by omega)]
 by_cases h0 : v % 2 = 0
 · rw [if_pos h0, h0]
   have e2 : IntKind.i64.wrap (0 - IntKind.i64.wrap ((0 : Nat) : Int)) = 0 := by decide
   rw [e2, bv0, BitVec.xor_zero, bv64 (by omega), zW (by omega) (by omega)]
 · have h1 : v % 2 = 1 := by omega
   rw [if_neg h0, h1]
   have e2 : IntKind.i64.wrap (0 - IntKind.i64.wrap ((1 : Nat) : Int)) = -1 := by decide
   rw [e2, bvm1, BitVec.xor_allOnes, BitVec.toNat_not, bv64 (by omega), IntKind.wrap_i64]
   omega
def zs2 (r : GRaw) : Prop := wire_Check r = true ∧ In64 r.fN
def keyN (r : GRaw) : Nat := (2 * r.fTag + r.fWire).toNat
def rawB (r : GRaw) : List UInt8 := vb (keyN r) ++ (if r.fWire = 0 then vb (zg r.fN) else vb r.fB.length ++ r.fB)
def zk1 (l : List GRaw) : List UInt8 := l.flatMap rawB
theorem zg2 {r : GRaw} (h : wire_Check r = true) : 1 ≤ r.fTag ∧ r.fTag ≤ 500 ∧ ((r.fWire = 0 ∧ r.fB = []) ∨ (r.fWire = 1 ∧ r.fN = 0 ∧ r.fB.length ≤ 4096)) := by
 unfold wire_Check at h
 split at h
 · cases h
 · rename_i h1
   simp only [Bool.or_eq_true, decide_eq_true_eq, not_or] at h1
   refine ⟨by omega, by omega, ?_⟩
   split at h
   · left; exact ⟨‹_›, by simpa using h⟩
   · split at h
     · right
       simp only [Bool.and_eq_true, decide_eq_true_eq] at h
       exact ⟨‹_›, h.1, by omega⟩
     · cases h
theorem check_num {t n : Int} (h1 : 1 ≤ t) (h2 : t ≤ 500) : wire_Check ⟨t, 0, n, []⟩ = true := by
 unfold wire_Check
 rw [if_neg (by simp only [Bool.or_eq_true, decide_eq_true_eq]; omega)]; rfl
theorem zr4 {t : Int} {s : List UInt8} (h1 : 1 ≤ t) (h2 : t ≤ 500) (h3 : s.length ≤ 4096) : wire_Check ⟨t, 1, 0, s⟩ = true := by
 unfold wire_Check
 rw [if_neg (by simp only [Bool.or_eq_true, decide_eq_true_eq]; omega)]
 simp only [decide_true, Bool.true_and]
 rw [if_neg (by decide), if_pos trivial]; exact decide_eq_true (by omega)
theorem rawB_pos (r : GRaw) : 2 ≤ (rawB r).length := by
 unfold rawB
 have h1 := vb_pos (keyN r)
 have h2 := vb_pos (zg r.fN)
 have h3 := vb_pos r.fB.length
 split <;> simp only [lP] <;> omega
theorem wire_Put_eq {a : List UInt8} {r : GRaw} (h : zs2 r) (ha : a.length ≤ 1000000) : wire_Put a r = some (a ++ rawB r, true) := by
 obtain ⟨hc, hn⟩ := h
 obtain ⟨h1, h2, h3⟩ := zg2 hc
 unfold wire_Put bnd
 rw [hc]; simp only []
 have ek : IntKind.u64.wrap (IntKind.i64.wrap ((IntKind.i64.wrap (2 * r.fTag)) + r.fWire)) = ((keyN r : Nat) : Int) := by
  rw [zW (x := 2 * r.fTag) (by omega) (by omega), zW (by omega) (by omega), u64i (by omega) (by omega), keyN]; omega
 have k1 : keyN r < 2 ^ 64 := by unfold keyN; omega
 have kl := vb_len10 k1
 rw [if_neg (by decide), ek, zE3 a k1 (by omega), bS]
 rcases h3 with ⟨h3, h4⟩ | ⟨h3, h4, h5⟩
 · rw [if_pos h3, vint_Zig_eq hn, zE3 _ (zg_lt hn) (by rw [lP]; omega), bS, rawB, if_pos h3, aA]
 · have hb := vb_len10 (n := r.fB.length) (by omega)
   rw [if_neg (by omega), u64w (by omega), zE3 _ (by omega) (by rw [lP]; omega), bS, zM1 (by simp only [lP]; omega), bS, rawB, if_neg (by omega)]
   simp only [aA]
theorem putAll_l11 : ∀ (q : List GRaw) (x : Int) (acc : List UInt8), (∀ r ∈ q, zs2 r) → acc.length ≤ 4096 → wire_PutAll.l11 q x acc = some (if 4096 < (acc ++ zk1 q).length then ([], 4) else (acc ++ zk1 q, 0))
 | [], x, acc, _, ha => by
  rw [wire_PutAll.l11, zk1, fZ, aN, if_neg (by omega)]
 | r :: q, x, acc, h, ha => by
  have hr := h r (mS ..)
  rw [wire_PutAll.l11, wire_Put_eq hr (by omega), bS]; dsimp only
  have e : acc ++ zk1 (r :: q) = (acc ++ rawB r) ++ zk1 q := by rw [zk1, fC, aA]; rfl
  rw [e]
  by_cases h1 : 4096 < (acc ++ rawB r).length
  · rw [if_pos (by omega), if_pos (by rw [lP]; omega)]
  · rw [if_neg (by omega), putAll_l11 q (x + 1) _ (fun s hs => h s (mO _ hs)) (by omega)]
theorem putAll_l4 (a : List GRaw) : ∀ (q : List GRaw) (x : Int), wire_PutAll.l4 a q x = if q.all wire_Check then wire_PutAll.l11 a 0 [] else some ([], 1)
 | [], x => by rw [wire_PutAll.l4]; rfl
 | r :: q, x => by
  rw [wire_PutAll.l4, bnd, List.all_cons]
  by_cases h : wire_Check r = true
  · rw [h, if_neg (by decide), putAll_l4 a q]; rfl
  · rw [if_pos (by simpa using h), if_neg (by rw [Bool.and_eq_true]; exact fun hh => h hh.1)]
theorem putAll_eq {l : List GRaw} (h : ∀ r ∈ l, In64 r.fN) : wire_PutAll l = some (if l.all wire_Check then (if 4096 < (zk1 l).length then ([], 4) else (zk1 l, 0)) else ([], 1)) := by
 rw [wire_PutAll, putAll_l4]
 by_cases h1 : l.all wire_Check = true
 · rw [if_pos h1, if_pos h1, putAll_l11 l 0 [] (fun r hr => ⟨List.all_eq_true.1 h1 r hr, h r hr⟩) (by decide)]; rfl
 · rw [if_neg h1, if_neg h1]
theorem zr2 {b x post : List UInt8} {n : Nat} (h : b.drop n = x ++ post) : b.drop (n + x.length) = post := by
 rw [← List.drop_drop, h, List.drop_left' rfl]
theorem zv3 {b x post : List UInt8} {n : Nat} (hn : n ≤ b.length) (h : b.drop n = x ++ post) : n + x.length + post.length = b.length := by
 have := congrArg lN h
 rw [List.length_drop, lP] at this; omega
theorem one_ok {b post : List UInt8} {n : Nat} {r : GRaw} (hb : b.length ≤ 4096) (hn : n ≤ b.length) (h : b.drop n = rawB r ++ post) (hr : zs2 r) : wire_one b (n : Int) = some (r, ((n + (rawB r).length : Nat) : Int), 0) := by
 obtain ⟨hc, hN⟩ := hr
 obtain ⟨h1, h2, h3⟩ := zg2 hc
 have k1 : keyN r < 2 ^ 64 := by unfold keyN; omega
 rw [rawB, aA] at h
 have hl := zv3 hn h
 unfold wire_one
 rw [get_ok hb hn h k1, bS]
 have hk : keyN r = (2 * r.fTag + r.fWire).toNat := rfl
 have d1 : ((keyN r : Nat) : Int).tdiv 2 = r.fTag := by rw [Int.tdiv_eq_ediv_of_nonneg (by omega), hk]; rcases h3 with h3 | h3 <;> omega
 have d2 : ((keyN r : Nat) : Int).tmod 2 = r.fWire := by rw [Int.tmod_eq_emod_of_nonneg (by omega), hk]; rcases h3 with h3 | h3 <;> omega
 simp only [d1, d2]
 rw [if_pos trivial, if_neg (by rw [u64i (by omega) (by omega)]; simp only [Bool.or_eq_true, decide_eq_true_eq]; omega), u64i (x := r.fTag) (by omega) (by omega), zW (x := r.fTag) (by omega) (by omega), zW (x := r.fWire) (by omega) (by omega)]
 have h' := zr2 h
 rcases h3 with ⟨h3, h4⟩ | ⟨h3, h4, h5⟩
 · rw [if_pos h3] at h'
   rw [get_ok hb (by omega) h' (zg_lt hN), bS]
   simp only []
   rw [if_pos trivial, if_pos h3, bnd, vint_Zag_eq (zg_lt hN), zu_zg, rawB, if_pos h3]
   have e : r = ⟨r.fTag, r.fWire, r.fN, []⟩ := by cases r; simp only at h4; subst h4; rfl
   rw [← e, lP, Nat.add_assoc]
 · rw [if_neg (by omega)] at h' hl
   rw [aA] at h'
   have hl' := zv3 (by omega) h'
   rw [lP] at hl'
   rw [get_ok hb (by omega) h' (show r.fB.length < 2 ^ 64 by omega), bS]
   simp only []
   have h'' := zr2 h'
   have e1 : IntKind.i64.wrap ((b.length : Int) - ((n + (vb (keyN r)).length + (vb r.fB.length).length : Nat) : Int)) = ((r.fB.length + post.length : Nat) : Int) := by rw [zW (by omega) (by omega)]; omega
   have e2 : IntKind.i64.wrap (r.fB.length : Int) = (r.fB.length : Int) := zW (by omega) (by omega)
   have e3 : IntKind.i64.wrap (((n + (vb (keyN r)).length + (vb r.fB.length).length : Nat) : Int) + (r.fB.length : Int)) = ((n + (vb (keyN r)).length + (vb r.fB.length).length + r.fB.length : Nat) : Int) := by rw [zW (by omega) (by omega)]; omega
   rw [if_pos trivial, if_neg (by omega), e1, u64w (by omega), if_neg (by omega), e2, e3, zI3 (by omega), bS, cutL, Int.toNat_natCast, Int.toNat_natCast, h'', Nat.add_sub_cancel_left, List.take_left' rfl, rawB, if_neg (by omega), lP, lP]
   have e : r = ⟨r.fTag, r.fWire, 0, r.fB⟩ := by cases r; simp only at h4; subst h4; rfl
   rw [← e, show n + (vb (keyN r)).length + (vb r.fB.length).length + r.fB.length = n + ((vb (keyN r)).length + ((vb r.fB.length).length + r.fB.length)) by omega]
theorem one_inv {b : List UInt8} {n : Nat} (hb : b.length ≤ 4096) (hn : n ≤ b.length) : ∃ r, wire_one b (n : Int) = some r ∧
 (r.2.2 = 0 → ∃ x post, b.drop n = rawB x ++ post ∧ zs2 x ∧ r = (x, ((n + (rawB x).length : Nat) : Int), 0)) ∧ 0 ≤ r.2.2 := by
 obtain ⟨r1, e1, i1, p1⟩ := get_inv hb hn
 by_cases z1 : r1.2.2 = 0
 · obtain ⟨v, post, hd, hv, rfl⟩ := i1 z1
   have hl := zv3 hn hd
   have hd' := zr2 hd
   by_cases c1 : (decide ((v : Int) < 2) || decide ((500 : Int) < IntKind.u64.wrap ((v : Int).tdiv 2))) = true
   · refine ⟨_, by unfold wire_one; rw [e1, bS, if_pos rfl, if_pos c1], ?_, by decide⟩
     intro h; exact absurd h (by decide)
   · have c1' := c1
     simp only [Bool.or_eq_true, decide_eq_true_eq, not_or] at c1
     obtain ⟨c2, c3⟩ := c1
     have d1 : (v : Int).tdiv 2 = ((v / 2 : Nat) : Int) := by rw [Int.tdiv_eq_ediv_of_nonneg (by omega)]; omega
     have d2 : (v : Int).tmod 2 = ((v % 2 : Nat) : Int) := by rw [Int.tmod_eq_emod_of_nonneg (by omega)]; omega
     rw [d1, u64w (by omega)] at c3
     obtain ⟨r2, e2, i2, p2⟩ := get_inv hb (n := n + (vb v).length) (by omega)
     by_cases z2 : r2.2.2 = 0
     · obtain ⟨w, post2, hd2, hw, rfl⟩ := i2 z2
       have hl2 := zv3 (by omega) hd2
       by_cases c4 : v % 2 = 0
       · have ok : zs2 ⟨((v / 2 : Nat) : Int), 0, zu w, []⟩ := ⟨check_num (by omega) (by omega), zu_in hw⟩
         have hkey : keyN ⟨((v / 2 : Nat) : Int), 0, zu w, []⟩ = v := by unfold keyN; simp only []; omega
         have hdr : b.drop n = rawB ⟨((v / 2 : Nat) : Int), 0, zu w, []⟩ ++ post2 := by
          rw [rawB, hkey, if_pos rfl]; simp only [zg_zu]; rw [hd, ← hd', hd2, aA]
         refine ⟨_, one_ok hb hn hdr ok, ?_, Int.le_refl 0⟩
         intro _; exact ⟨_, _, hdr, ok, rfl⟩
       · have c5 : v % 2 = 1 := by omega
         by_cases c6 : w ≤ post2.length
         · have ok : zs2 ⟨((v / 2 : Nat) : Int), 1, 0, post2.take w⟩ := ⟨zr4 (by omega) (by omega) (by rw [List.length_take]; omega), (show In64 0 from ⟨by decide, by decide⟩)⟩
           have hkey : keyN ⟨((v / 2 : Nat) : Int), 1, 0, post2.take w⟩ = v := by unfold keyN; simp only []; omega
           have hdr : b.drop n = rawB ⟨((v / 2 : Nat) : Int), 1, 0, post2.take w⟩ ++ post2.drop w := by
            rw [rawB, hkey, if_neg (show ¬ (1 : Int) = 0 by decide)]
            simp only [List.length_take, Nat.min_eq_left c6]
            rw [hd, ← hd', hd2, aA, aA, List.take_append_drop]
           refine ⟨_, one_ok hb hn hdr ok, ?_, Int.le_refl 0⟩
           intro _; exact ⟨_, _, hdr, ok, rfl⟩
         · have e3 : IntKind.i64.wrap ((b.length : Int) - ((n + (vb v).length + (vb w).length : Nat) : Int)) = ((post2.length : Nat) : Int) := by rw [zW (by omega) (by omega)]; omega
           refine ⟨_, by unfold wire_one; rw [e1, bS, if_pos rfl, if_neg c1', e2, bS, if_pos rfl, d2, if_neg (by rw [zW (by omega) (by omega)]; omega), e3, u64w (by omega), if_pos (by omega)], ?_, by decide⟩
           intro h; exact absurd h (by decide)
     · refine ⟨_, by unfold wire_one; rw [e1, bS, if_pos rfl, if_neg c1', e2, bS, if_neg z2], ?_, p2⟩
       intro h; exact absurd h z2
 · refine ⟨_, by unfold wire_one; rw [e1, bS, if_neg z1], ?_, p1⟩
   intro h; exact absurd h z1
theorem zd1 (r : GRaw) (l : List GRaw) : zk1 (r :: l) = rawB r ++ zk1 l := by rw [zk1, fC]; rfl
theorem zY1 (l m : List GRaw) : zk1 (l ++ m) = zk1 l ++ zk1 m := by rw [zk1, fA]; rfl
theorem get_l_ok {b : List UInt8} (hb : b.length ≤ 4096) : ∀ (l : List GRaw) (k n : Nat) (acc : List GRaw), n ≤ b.length → b.drop n = zk1 l → (∀ r ∈ l, zs2 r) → 2 * acc.length ≤ n → b.length < k + n →
 wire_Get.l12 b k acc (n : Int) = some (acc ++ l, 0)
 | l, 0, n, acc, hn, _, _, _, hk => by omega
 | [], k + 1, n, acc, hn, hd, _, _, hk => by
  have := congrArg lN hd
  rw [List.length_drop, zk1, fZ, lZ] at this
  rw [wire_Get.l12, if_neg (by omega), aN]
 | r :: l, k + 1, n, acc, hn, hd, hr, ha, hk => by
  rw [zd1] at hd
  have hl := zv3 hn hd
  have h2 := rawB_pos r
  rw [wire_Get.l12, if_pos (by omega), one_ok hb hn hd (hr r (mS ..)), bS, if_pos rfl, zM1 (by omega), bS]
  rw [get_l_ok hb l k (n + (rawB r).length) (acc ++ [r]) (by omega) (zr2 hd) (fun s hs => hr s (mO _ hs)) (by rw [lP, List.length_singleton]; omega) (by omega), aA]; rfl
theorem get_l_inv {b : List UInt8} (hb : b.length ≤ 4096) : ∀ (k n : Nat) (acc : List GRaw), n ≤ b.length → 2 * acc.length ≤ n → b.length < k + n →
 ∃ r, wire_Get.l12 b k acc (n : Int) = some r ∧ (r.2 = 0 → ∃ l, b.drop n = zk1 l ∧ (∀ r ∈ l, zs2 r) ∧ r = (acc ++ l, 0)) ∧ 0 ≤ r.2 ∧ (r.2 ≠ 0 → r.1 = [])
 | 0, n, acc, hn, _, hk => by omega
 | k + 1, n, acc, hn, ha, hk => by
  by_cases h : n < b.length
  · obtain ⟨r1, e1, i1, p1⟩ := one_inv hb hn
    by_cases z1 : r1.2.2 = 0
    · obtain ⟨x, post, hd, ok, rfl⟩ := i1 z1
      have hl := zv3 hn hd
      have h2 := rawB_pos x
      obtain ⟨r2, e2, i2, p2⟩ := get_l_inv hb k (n + (rawB x).length) (acc ++ [x]) (by omega) (by rw [lP, List.length_singleton]; omega) (by omega)
      refine ⟨r2, by rw [wire_Get.l12, if_pos (by omega), e1, bS, if_pos rfl, zM1 (by omega), bS]; exact e2, ?_, p2⟩
      intro hz
      obtain ⟨l, hd2, hok, rfl⟩ := i2 hz
      refine ⟨x :: l, ?_, ?_, by rw [aA]; rfl⟩
      · rw [zd1, hd, ← hd2, zr2 hd]
      · intro s hs
        rcases mI.1 hs with rfl | hs
        · exact ok
        · exact hok s hs
    · refine ⟨_, by rw [wire_Get.l12, if_pos (by omega), e1, bS, if_neg z1], fun h => absurd h z1, p1, fun _ => rfl⟩
  · refine ⟨_, by rw [wire_Get.l12, if_neg (by omega)], fun _ => ⟨[], ?_, (fun r hr => by cases hr), by rw [aN]⟩, Int.le_refl 0, fun h => absurd rfl h⟩
    rw [List.drop_eq_nil_of_le (by omega)]; rfl
theorem get_rounds : 4097 ≤ rounds := by decide
theorem wire_Get_ok {l : List GRaw} (h : ∀ r ∈ l, zs2 r) (hb : (zk1 l).length ≤ 4096) : wire_Get (zk1 l) = some (l, 0) := by
 rw [wire_Get, if_neg (by omega)]
 have := get_l_ok hb l rounds 0 [] (Nat.zero_le _) rfl h (nR _) (by have := get_rounds; omega)
 simpa using this
theorem zt4 (b : List UInt8) : ∃ r, wire_Get b = some r ∧ (r.2 = 0 → b = zk1 r.1 ∧ b.length ≤ 4096 ∧ ∀ x ∈ r.1, zs2 x) ∧ 0 ≤ r.2 ∧ (r.2 ≠ 0 → r.1 = []) := by
 by_cases hb : b.length ≤ 4096
 · obtain ⟨r, e, i, p, q⟩ := get_l_inv hb rounds 0 [] (Nat.zero_le _) (nR _) (by have := get_rounds; omega)
   refine ⟨r, by rw [wire_Get, if_neg (by omega)]; exact e, ?_, p, q⟩
   intro hz
   obtain ⟨l, hd, ok, rfl⟩ := i hz
   exact ⟨hd, hb, ok⟩
 · refine ⟨_, by rw [wire_Get, if_pos (by omega)], fun h => absurd h (by decide), by decide, fun _ => rfl⟩
end Go.Proofs.YtaddlmlpeghonaaDoor
end
section
set_option maxRecDepth 4000
namespace Go.Proofs.YtaddlmlpeghonaaDoor
open AM
def insR (r : GRaw) : List GRaw → List GRaw
 | [] => [r]
 | x :: l => if r.fTag < x.fTag then r :: x :: l else x :: insR r l
def srtA : List GRaw → List GRaw → List GRaw
 | [], S => S
 | r :: q, S => srtA q (insR r S)
def srt (l : List GRaw) : List GRaw := srtA l []
def TagLe (a b : GRaw) : Prop := a.fTag ≤ b.fTag
theorem insR_app {r : GRaw} : ∀ {A B : List GRaw}, (∀ a ∈ A, a.fTag ≤ r.fTag) → (∀ b ∈ B, r.fTag < b.fTag) → insR r (A ++ B) = A ++ r :: B
 | [], [], _, _ => rfl
 | [], b :: B, _, hB => by
  rw [nA, insR, if_pos (hB b (mS ..))]; rfl
 | a :: A, B, hA, hB => by
  rw [cA, insR, if_neg (by have := hA a (mS ..); omega), insR_app (fun x hx => hA x (mO _ hx)) hB]; rfl
theorem insR_mem {r x : GRaw} : ∀ {l : List GRaw}, x ∈ insR r l ↔ x = r ∨ x ∈ l
 | [] => by simp [insR]
 | y :: l => by
  rw [insR]; split
  · simp
  · rw [mI, insR_mem, mI]
    constructor
    · rintro (h | h | h)
      · exact Or.inr (Or.inl h)
      · exact Or.inl h
      · exact Or.inr (Or.inr h)
    · rintro (h | h | h)
      · exact Or.inr (Or.inl h)
      · exact Or.inl h
      · exact Or.inr (Or.inr h)
theorem zL4 (r : GRaw) : ∀ l : List GRaw, (insR r l).length = l.length + 1
 | [] => rfl
 | x :: l => by
  rw [insR]; split
  · rfl
  · rw [lC, zL4 r l, lC]
theorem zo2 {r : GRaw} : ∀ {l : List GRaw}, l.Pairwise TagLe → (insR r l).Pairwise TagLe
 | [], _ => by simp [insR]
 | x :: l, h => by
  rw [pC] at h
  rw [insR]; split
  · rename_i hlt
    rw [pC, pC]
    refine ⟨?_, h⟩
    intro y hy
    rcases mI.1 hy with rfl | hy
    · unfold TagLe; omega
    · have := h.1 y hy; unfold TagLe at *; omega
  · rename_i hge
    rw [pC]
    refine ⟨?_, zo2 h.2⟩
    intro y hy
    rcases insR_mem.1 hy with rfl | hy
    · unfold TagLe; omega
    · exact h.1 y hy
theorem zq5 {r : GRaw} (t : Int) : ∀ {l : List GRaw}, l.Pairwise TagLe → (insR r l).filter (fun x => x.fTag = t) = l.filter (fun x => x.fTag = t) ++ (if r.fTag = t then [r] else [])
 | [], _ => by rw [insR, List.filter_nil, nA, List.filter_cons, List.filter_nil]; simp only [decide_eq_true_eq]
 | x :: l, h => by
  rw [pC] at h
  rw [insR]; split
  · rename_i hlt
    rw [List.filter_cons]
    by_cases hr : r.fTag = t
    · have hn : (x :: l).filter (fun x => x.fTag = t) = [] := by
       rw [List.filter_eq_nil_iff]
       intro y hy
       simp only [decide_eq_true_eq]
       rcases mI.1 hy with rfl | hy
       · omega
       · have := h.1 y hy; unfold TagLe at this; omega
      rw [hn, if_pos (by simpa using hr), if_pos hr]; rfl
    · rw [if_neg (by simpa using hr), if_neg hr, aN]
  · rw [List.filter_cons, List.filter_cons, zq5 t h.2]
    split <;> rfl
theorem za5 : ∀ {l S : List GRaw}, S.Pairwise TagLe → (srtA l S).Pairwise TagLe
 | [], _, h => h
 | r :: l, S, h => by rw [srtA]; exact za5 (l := l) (zo2 h)
theorem zi4 (l : List GRaw) : (srt l).Pairwise TagLe := za5 List.Pairwise.nil
theorem srtA_len : ∀ (l S : List GRaw), (srtA l S).length = S.length + l.length
 | [], _ => rfl
 | r :: l, S => by rw [srtA, srtA_len, zL4, lC]; omega
theorem srt_len (l : List GRaw) : (srt l).length = l.length := by rw [srt, srtA_len, lZ, nZ]
theorem srtA_mem {x : GRaw} : ∀ {l S : List GRaw}, x ∈ srtA l S ↔ x ∈ S ∨ x ∈ l
 | [], S => by simp [srtA]
 | r :: l, S => by
  rw [srtA, srtA_mem, insR_mem, mI]
  constructor
  · rintro ((h | h) | h)
    · exact Or.inr (Or.inl h)
    · exact Or.inl h
    · exact Or.inr (Or.inr h)
  · rintro (h | h | h)
    · exact Or.inl (Or.inr h)
    · exact Or.inl (Or.inl h)
    · exact Or.inr h
theorem srt_mem {x : GRaw} {l : List GRaw} : x ∈ srt l ↔ x ∈ l := by rw [srt, srtA_mem]; simp
theorem zb5 (t : Int) : ∀ {l S : List GRaw}, S.Pairwise TagLe → (srtA l S).filter (fun x => x.fTag = t) = S.filter (fun x => x.fTag = t) ++ l.filter (fun x => x.fTag = t)
 | [], S, _ => by rw [srtA, List.filter_nil, aN]
 | r :: l, S, h => by
  rw [srtA, zb5 t (zo2 h), zq5 t h, List.filter_cons, aA]
  congr 1
  simp only [decide_eq_true_eq]
  split <;> rfl
theorem srt_filter (l : List GRaw) (t : Int) : (srt l).filter (fun x => x.fTag = t) = l.filter (fun x => x.fTag = t) := by
 rw [srt, zb5 t List.Pairwise.nil]; rfl
theorem srtA_id : ∀ {l S : List GRaw}, (S ++ l).Pairwise TagLe → srtA l S = S ++ l
 | [], S, _ => by rw [srtA, aN]
 | r :: l, S, h => by
  have hS : ∀ a ∈ S, a.fTag ≤ r.fTag := fun a ha => (List.pairwise_append.1 h).2.2 a ha r (mS ..)
  have e : insR r S = S ++ [r] := by
   have := insR_app (r := r) (A := S) (B := []) hS (fun b hb => by cases hb)
   rwa [aN] at this
  rw [srtA, e, srtA_id (by rwa [aA]), aA]; rfl
theorem srt_id {l : List GRaw} (h : l.Pairwise TagLe) : srt l = l := srtA_id (S := []) h
theorem sorted_ext : ∀ {l m : List GRaw}, l.Pairwise TagLe → m.Pairwise TagLe → (∀ t : Int, l.filter (fun x => x.fTag = t) = m.filter (fun x => x.fTag = t)) → l = m
 | [], [], _, _, _ => rfl
 | [], y :: m, _, _, h => by
  have := h y.fTag
  rw [List.filter_nil, List.filter_cons, if_pos (by simp)] at this; cases this
 | x :: l, [], _, _, h => by
  have := h x.fTag
  rw [List.filter_nil, List.filter_cons, if_pos (by simp)] at this; cases this
 | x :: l, y :: m, hl, hm, h => by
  rw [pC] at hl hm
  have hxy : x.fTag = y.fTag := by
   have h1 : x ∈ (y :: m).filter (fun z => z.fTag = x.fTag) := by rw [← h, List.filter_cons, if_pos (by simp)]; exact mS ..
   have h2 : y ∈ (x :: l).filter (fun z => z.fTag = y.fTag) := by rw [h, List.filter_cons, if_pos (by simp)]; exact mS ..
   have a1 : y.fTag ≤ x.fTag := by
    rcases mI.1 (List.mem_filter.1 h1).1 with e | h1
    · rw [e]; exact Int.le_refl _
    · exact hm.1 x h1
   have a2 : x.fTag ≤ y.fTag := by
    rcases mI.1 (List.mem_filter.1 h2).1 with e | h2
    · rw [e]; exact Int.le_refl _
    · exact hl.1 y h2
   omega
  have e : x = y := by
   have := h x.fTag
   rw [List.filter_cons, List.filter_cons, if_pos (by simp), if_pos (by simp [hxy])] at this
   injection this
  subst e
  congr 1
  refine sorted_ext hl.2 hm.2 fun t => ?_
  have := h t
  rw [List.filter_cons, List.filter_cons] at this
  split at this
  · injection this
  · exact this
theorem srt_of {l m : List GRaw} (hm : m.Pairwise TagLe) (h : ∀ t : Int, l.filter (fun x => x.fTag = t) = m.filter (fun x => x.fTag = t)) : srt l = m :=
 sorted_ext (zi4 l) hm fun t => by rw [srt_filter, h]
theorem zn3 {α : Type} {A B : List α} {x : α} {i : Int} (h : i = A.length) : idxL (A ++ x :: B) i = some x := by
 subst h
 rw [idxL, if_pos (by omega), Int.toNat_natCast, gR (nR _), Nat.sub_self]; rfl
theorem idx_t {α : Type} {l : List α} {i : Int} {x : α} (h0 : 0 ≤ i) (h : l[i.toNat]? = some x) : idxL l i = some x := by rw [idxL, if_pos h0, h]
theorem sorted_l17 {r z : GRaw} {S P : List GRaw} (rec8 : Int → List GRaw → Option (List GRaw)) : ∀ (k : Nat) (A B : List GRaw), S = A ++ B → (∀ b ∈ B, r.fTag < b.fTag) → A.Pairwise TagLe → A.length < k → S.length < 1000000 →
 wire_Sorted.l17 (S.length : Int) (S ++ z :: P) rec8 r k (A.length : Int) = rec8 ((S.length : Int) + 1) (insR r S ++ P)
 | 0, _, _, _, _, _, h, _ => by omega
 | k + 1, A, B, hS, hB, hA, hk, hn => by
  have stop : (∀ a ∈ A, a.fTag ≤ r.fTag) → wire_Sorted.j20 (S.length : Int) (S ++ z :: P) rec8 r (A.length : Int) (wire_Sorted.l17 (S.length : Int) (S ++ z :: P) rec8 r k) false = rec8 ((S.length : Int) + 1) (insR r S ++ P) := by
   intro hle
   have hl : S.length = A.length + B.length := by rw [hS, lP]
   have e1 : IntKind.i64.wrap ((A.length : Int) + 1) = ((A.length + 1 : Nat) : Int) := by rw [zW (by omega) (by omega)]; omega
   rw [wire_Sorted.j20, if_neg (by decide), e1, zI3 (by rw [lP, lC]; omega), bS, zI3 (by rw [lP, lC]; omega), bS]
   have e2 : Int.toNat ((S.length : Int) + 1) = S.length + 1 := by omega
   rw [Int.toNat_natCast, Int.toNat_natCast, Int.toNat_natCast, e2, show min (S.length - A.length) (S.length + 1 - (A.length + 1)) = B.length by omega]
   have hc : ∃ w : GRaw, A.length < (S ++ z :: P).length ∧ zx3 (S ++ z :: P) (A.length + 1) A.length B.length = A ++ w :: (B ++ P) := by
    cases hB' : B with
    | nil =>
     subst hB'
     rw [aN] at hS
     refine ⟨z, by rw [hS, lP, lC]; omega, ?_⟩
     rw [zx3, hS, lZ, List.take_zero, nA, Nat.add_zero, List.drop_append, List.drop_eq_nil_of_le (by omega), List.take_append, List.take_of_length_le (by omega)]
     rw [show A.length + 1 - A.length = 1 by omega]
     simp
    | cons b B' =>
     refine ⟨b, by rw [hS, hB', lP, lP, lC]; omega, ?_⟩
     rw [hS, hB', zx3]
     have t1 : ((A ++ b :: B') ++ z :: P).take (A.length + 1) = A ++ [b] := by
      rw [aA, List.take_append, List.take_of_length_le (by omega), show A.length + 1 - A.length = 1 by omega]; rfl
     have t2 : (((A ++ b :: B') ++ z :: P).drop A.length).take (b :: B').length = b :: B' := by
      rw [aA, List.drop_left' rfl, List.take_left' rfl]
     have t3 : ((A ++ b :: B') ++ z :: P).drop (A.length + 1 + (b :: B').length) = P := by
      rw [show (A ++ b :: B') ++ z :: P = ((A ++ b :: B') ++ [z]) ++ P by rw [aA (A ++ b :: B')]; rfl]
      rw [List.drop_left']
      simp only [lP, lC, lZ]; omega
     rw [t1, t2, t3]
     simp only [aA, cA, nA]
   obtain ⟨w, hlt, hc⟩ := hc
   rw [hc, zn3 rfl, bS, setI, Int.toNat_natCast, List.set_append_right _ _ (nR _), Nat.sub_self, List.set_cons_zero, hS, insR_app hle hB, aA]; rfl
  rcases List.eq_nil_or_concat A with rfl | ⟨A', a, rfl⟩
  · rw [wire_Sorted.l17, if_neg (by simp)]
    exact stop (fun a ha => by cases ha)
  · rw [List.concat_eq_append] at *
    have hlA : (A' ++ [a]).length = A'.length + 1 := by rw [lP, List.length_singleton]
    have hlS : S.length = (A' ++ [a]).length + B.length := by rw [hS, lP]
    have e1 : IntKind.i64.wrap (((A' ++ [a]).length : Int) - 1) = (A'.length : Int) := by
     rw [zW (by omega) (by omega)]; omega
    rw [wire_Sorted.l17, if_pos (by omega), e1]
    have ei : idxL (S ++ z :: P) (A'.length : Int) = some a := by
     rw [hS, aA, aA]; exact zn3 rfl
    rw [ei, bS]
    by_cases hgt : r.fTag < a.fTag
    · rw [decide_eq_true hgt, wire_Sorted.j20, if_pos rfl, e1]
      refine sorted_l17 rec8 k A' (a :: B) (by rw [hS, aA]; rfl) ?_ (List.pairwise_append.1 hA).1 (by omega) hn
      intro b hb
      rcases mI.1 hb with rfl | hb
      · exact hgt
      · exact hB b hb
    · rw [decide_eq_false hgt]
      refine stop ?_
      intro x hx
      rcases mA.1 hx with hx | hx
      · have := (List.pairwise_append.1 hA).2.2 x hx a (List.mem_singleton.2 rfl)
        unfold TagLe at this; omega
      · rw [List.mem_singleton] at hx; subst hx; omega
theorem sorted_l8 : ∀ (q S P : List GRaw), P.length = q.length → S.Pairwise TagLe → S.length + q.length < 1000000 → wire_Sorted.l8 q (S.length : Int) (S ++ P) = some (srtA q S)
 | [], S, P, hP, _, _ => by
  have : P = [] := lI.1 (by simpa using hP)
  subst this
  rw [wire_Sorted.l8, srtA, aN]
 | r :: q, S, [], hP, _, _ => by cases hP
 | r :: q, S, z :: P, hP, hS, hn => by
  rw [lC] at hn
  rw [wire_Sorted.l8, sorted_l17 (S := S) (wire_Sorted.l8 q) rounds S [] (aN S).symm (fun b hb => by cases hb) hS (Nat.lt_of_lt_of_le (show S.length < 1000000 by omega) (by decide)) (by omega)]
  have e : (S.length : Int) + 1 = ((insR r S).length : Int) := by rw [zL4]; omega
  rw [e, sorted_l8 q (insR r S) P (by simpa using hP) (zo2 hS) (by rw [zL4]; omega), srtA]
theorem sorted_eq {l : List GRaw} (h : l.length < 1000000) : wire_Sorted l = some (srt l) := by
 rw [wire_Sorted, zI3 (by omega), bS, Int.toNat_natCast]
 exact sorted_l8 l [] _ List.length_replicate List.Pairwise.nil (by rw [lZ]; omega)
end Go.Proofs.YtaddlmlpeghonaaDoor
end
section
set_option maxRecDepth 4000
namespace Go.Proofs.YtaddlmlpeghonaaDoor
open AM
theorem decU_pos (s : List UInt8) (p : Nat) : 1 ≤ (decU s p).2 := by
 unfold decU Utf8.decode
 dsimp only
 repeat' split
 all_goals first | exact nR 1 | exact (by decide : 1 ≤ 2) | exact (by decide : 1 ≤ 3) | exact (by decide : 1 ≤ 4)
theorem runesNext_t (a : List UInt8) (n : Nat) (h : a.length ≤ 9223372036854775807) : ∃ r, runes_Next a (n : Int) = some r := by
 unfold runes_Next
 split
 · exact ⟨_, rfl⟩
 · rename_i h1
   simp only [Bool.or_eq_true, decide_eq_true_eq, not_or] at h1
   rw [zI3 (by omega), bS, bnd]
   split <;> exact ⟨_, rfl⟩
theorem zu4 (a : List UInt8) (h : a.length ≤ 9223372036854775807) : ∀ (k p : Nat), 0 < k → a.length < p + k → ∃ v, runes_Valid.l4 a k p = some v
 | 0, p, h0, hk => by omega
 | k + 1, p, _, hk => by
  have hd := decU_pos a p
  rw [runes_Valid.l4]
  split
  · have ih := zu4 a h k (p + (decU a p).2) (by omega) (by omega)
    split
    · obtain ⟨r, e⟩ := runesNext_t a p h
      rw [e, bS]
      split
      · exact ⟨_, rfl⟩
      · exact ih
    · exact ih
  · exact ⟨_, rfl⟩
theorem zS : 9223372036854775808 ≤ rounds := by decide
def zd5 (b : List UInt8) : Bool := (runes_Valid b).getD false
theorem runesV_eq {a : List UInt8} (h : a.length ≤ 9223372036854775807) : runes_Valid a = some (zd5 a) := by
 obtain ⟨v, e⟩ := zu4 a h rounds 0 (by have := zS; omega) (by have := zS; omega)
 unfold zd5
 rw [show runes_Valid a = some v from e]; rfl
theorem zt1 (t : Int) (l : List GTree) : (GEntry.mk t l).fTag = t := rfl
theorem zh1 (t : Int) (l : List GTree) : (GEntry.mk t l).fTrees = l := rfl
def zP2 (a b : GEntry) : Prop := a.fTag < b.fTag
def putE (t : Int) (rep : Prop) [Decidable rep] (x : GTree) : List GEntry → List GEntry
 | [] => [⟨t, [x]⟩]
 | e :: l => if e.fTag < t then e :: putE t rep x l else if e.fTag = t then ⟨t, (if rep then e.fTrees else []) ++ [x]⟩ :: l else ⟨t, [x]⟩ :: e :: l
def putN (t : Int) (rep : Prop) [Decidable rep] : List GEntry → Nat
 | [] => 1
 | e :: l => if e.fTag < t then putN t rep l else if e.fTag = t then (if rep then e.fTrees.length else 0) + 1 else 1
theorem zG4 {t : Int} {rep : Prop} [Decidable rep] {x : GTree} {B : List GEntry} : ∀ {A : List GEntry}, (∀ a ∈ A, a.fTag < t) → putE t rep x (A ++ B) = A ++ putE t rep x B
 | [], _ => rfl
 | a :: A, h => by
  rw [cA, putE, if_pos (h a (mS ..)), zG4 fun b hb => h b (mO _ hb)]; rfl
theorem zF4 {t : Int} {rep : Prop} [Decidable rep] {B : List GEntry} : ∀ {A : List GEntry}, (∀ a ∈ A, a.fTag < t) → putN t rep (A ++ B) = putN t rep B
 | [], _ => rfl
 | a :: A, h => by
  rw [cA, putN, if_pos (h a (mS ..)), zF4 fun b hb => h b (mO _ hb)]
theorem splitE (t : Int) : ∀ {es : List GEntry}, es.Pairwise zP2 → ∃ A B, es = A ++ B ∧ (∀ a ∈ A, a.fTag < t) ∧ (∀ b ∈ B, t ≤ b.fTag)
 | [], _ => ⟨[], [], rfl, (fun _ h => by cases h), (fun _ h => by cases h)⟩
 | e :: es, h => by
  rw [pC] at h
  by_cases he : e.fTag < t
  · obtain ⟨A, B, rfl, hA, hB⟩ := splitE t h.2
    refine ⟨e :: A, B, rfl, ?_, hB⟩
    intro a ha
    rcases mI.1 ha with rfl | ha
    · exact he
    · exact hA a ha
  · refine ⟨[], e :: es, rfl, (fun _ h => by cases h), ?_⟩
    intro b hb
    rcases mI.1 hb with rfl | hb
    · omega
    · have := h.1 b hb; unfold zP2 at this; omega
theorem put1_eq {e : GEntry} {t : Int} (h1 : 1 ≤ e.fTag ∧ e.fTag ≤ 500) (h2 : 1 ≤ t ∧ t ≤ 500) : decode_put_1 e t = e.fTag - t := by
 unfold decode_put_1; exact zW (by omega) (by omega)
theorem half {x y : Nat} (h : x + y < 9223372036854775808) : IntKind.i64.wrap (Int.fdiv (IntKind.u64.wrap (IntKind.i64.wrap ((x : Int) + (y : Int)))) (2 ^ (min (Int.toNat 1) 64))) = (((x + y) / 2 : Nat) : Int) := by
 rw [zW (x := (x : Int) + y) (by omega) (by omega), u64i (by omega) (by omega), show min (Int.toNat 1) 64 = 1 from rfl, Int.fdiv_eq_ediv_of_nonneg _ (by decide), zW (by omega) (by omega)]
 omega
def zI2 (t : Int) : List GEntry → Bool
 | [] => false
 | b :: _ => decide (b.fTag = t)
theorem bs_l {t : Int} {A B : List GEntry} (ht : 1 ≤ t ∧ t ≤ 500) (hA : ∀ a ∈ A, a.fTag < t) (hB : ∀ b ∈ B, t ≤ b.fTag) (hr : ∀ e ∈ A ++ B, 1 ≤ e.fTag ∧ e.fTag ≤ 500) (hn : (A ++ B).length < 4611686018427387904) :
 ∀ (k x y : Nat), x ≤ A.length → A.length ≤ y → y ≤ (A ++ B).length → y < x + k → slices_BinarySearchFunc_Entry_decode_put_1.l6 (A ++ B) t k (x : Int) (y : Int) = some ((A.length : Int), zI2 t B)
 | 0, x, y, _, _, _, hk => by omega
 | k + 1, x, y, hx, hy, hl, hk => by
  rw [slices_BinarySearchFunc_Entry_decode_put_1.l6]
  by_cases hlt : x < y
  · rw [if_pos (by omega), half (by omega)]
    have hm : (x + y) / 2 < (A ++ B).length := by omega
    rw [idx_t (by omega) (show (A ++ B)[Int.toNat (((x + y) / 2 : Nat) : Int)]? = some ((A ++ B)[(x + y) / 2]'hm) by rw [Int.toNat_natCast]; exact List.getElem?_eq_getElem hm), bS, bnd, put1_eq (hr _ (List.getElem_mem hm)) ht]
    by_cases hc : (x + y) / 2 < A.length
    · have e : (A ++ B)[(x + y) / 2]'hm = A[(x + y) / 2]'hc := List.getElem_append_left hc
      have := hA _ (List.getElem_mem hc)
      rw [e, if_pos (by omega), zW (by omega) (by omega), show (((x + y) / 2 : Nat) : Int) + 1 = (((x + y) / 2 + 1 : Nat) : Int) by omega]
      exact bs_l ht hA hB hr hn k _ y (by omega) hy hl (by omega)
    · have hlB : (x + y) / 2 - A.length < B.length := by rw [lP] at hm; omega
      have e : (A ++ B)[(x + y) / 2]'hm = B[(x + y) / 2 - A.length]'hlB := List.getElem_append_right (by omega)
      have := hB _ (List.getElem_mem hlB)
      rw [e, if_neg (by omega)]
      exact bs_l ht hA hB hr hn k x _ hx (by omega) (by omega) (by omega)
  · have e : x = A.length := by omega
    subst e
    rw [if_neg (by omega)]
    cases B with
    | nil => rw [aN, if_neg (by omega)]; rfl
    | cons b B =>
     rw [if_pos (by rw [lP, lC]; omega), zn3 rfl, bS, bnd, put1_eq (hr b (List.mem_append_right _ (mS ..))) ht, bS, zI2]
     congr 2
     exact decide_eq_decide.2 (by omega)
theorem decode_put_eq {es : List GEntry} {f : GField} {x : GTree} (hs : es.Pairwise zP2) (hr : ∀ e ∈ es, 1 ≤ e.fTag ∧ e.fTag ≤ 500) (hf : 1 ≤ f.fTag ∧ f.fTag ≤ 500) (hn : es.length < 1000000) (ht : ∀ e ∈ es, e.fTrees.length < 1000000) :
 zL2 es f x = some (putE f.fTag (f.fLabel = 3) x es, decide (putN f.fTag (f.fLabel = 3) es ≤ 64)) := by
 obtain ⟨A, B, rfl, hA, hB⟩ := splitE f.fTag hs
 have hln : (A ++ B).length = A.length + B.length := lP
 have bs : slices_BinarySearchFunc_Entry_decode_put_1 (A ++ B) f.fTag = some ((A.length : Int), zI2 f.fTag B) := bs_l hf hA hB hr (by omega) rounds 0 (A ++ B).length (Nat.zero_le _) (by omega) (nR _) (by have := zS; omega)
 rw [zL2, bs, bS, zG4 hA, zF4 hA]
 have ins : ∀ (B : List GEntry), (A ++ B).length < 1000000 → zI2 f.fTag B = false → (∀ b ∈ B, f.fTag ≤ b.fTag) → ((if ((A.length : Int), zI2 f.fTag B).2 = true then some (A ++ B) else (grd (0 ≤ ((A.length : Int), zI2 f.fTag B).1 ∧ ((A.length : Int), zI2 f.fTag B).1 ≤ ((A ++ B).length : Int))).bind fun _ => (room ((A ++ B).length + 1) 32).bind fun _ => some ((A ++ B).take ((A.length : Int), zI2 f.fTag B).1.toNat ++ ⟨f.fTag, []⟩ :: (A ++ B).drop ((A.length : Int), zI2 f.fTag B).1.toNat)).bind fun es1 =>
  (idxL es1 ((A.length : Int), zI2 f.fTag B).1).bind fun e =>
  (room ((if f.fLabel = 3 then e.fTrees.length else 0) + 1) 80).bind fun _ =>
  some (es1.set ((A.length : Int), zI2 f.fTag B).1.toNat ⟨e.fTag, (if f.fLabel = 3 then e.fTrees else []) ++ [x]⟩, decide ((((if f.fLabel = 3 then e.fTrees else []) ++ [x]).length : Int) ≤ 64))) = some (A ++ ⟨f.fTag, [x]⟩ :: B, true) := by
  intro B hln hh _
  have hl2 : (A ++ B).length = A.length + B.length := lP
  rw [hh]
  simp only [Int.toNat_natCast]
  rw [if_neg (by decide), zI3 (by omega), bS, zM1 (by omega), bS, bS, List.take_left' rfl, List.drop_left' rfl, zn3 rfl, bS, zM1 (by rw [zh1]; split <;> decide), bS, List.set_append_right _ _ (nR _), Nat.sub_self, List.set_cons_zero]
  simp only [zt1, zh1, ite_self, nA, List.length_singleton]; rfl
 cases B with
 | nil =>
  rw [ins [] hn rfl (fun _ h => by cases h)]; rfl
 | cons b B =>
  have hb := hB b (mS ..)
  by_cases hbt : b.fTag = f.fTag
  · have hh : zI2 f.fTag (b :: B) = true := decide_eq_true hbt
    have htb := ht b (List.mem_append_right _ (mS ..))
    rw [hh]
    simp only [Int.toNat_natCast]
    rw [if_pos trivial, bS, zn3 rfl, bS, zM1 (by split <;> omega), bS, List.set_append_right _ _ (nR _), Nat.sub_self, List.set_cons_zero, putE, if_neg (show ¬ b.fTag < f.fTag by omega), if_pos hbt, putN, if_neg (show ¬ b.fTag < f.fTag by omega), if_pos hbt, hbt]
    congr 2
    refine decide_eq_decide.2 ?_
    rw [lP, List.length_singleton]
    by_cases h3 : f.fLabel = 3
    · rw [if_pos h3, if_pos h3]; omega
    · rw [if_neg h3, if_neg h3, lZ]; omega
  · have hh : zI2 f.fTag (b :: B) = false := decide_eq_false hbt
    rw [ins (b :: B) hn hh hB, putE, if_neg (by omega), if_neg hbt, putN, if_neg (by omega), if_neg hbt]; rfl
theorem putE_mem {t : Int} {rep : Prop} [Decidable rep] {x : GTree} {e : GEntry} : ∀ {es : List GEntry}, e ∈ putE t rep x es → e ∈ es ∨ e.fTag = t
 | [], h => by rw [putE, List.mem_singleton] at h; subst h; exact Or.inr rfl
 | a :: es, h => by
  rw [putE] at h; split at h
  · rcases mI.1 h with rfl | h
    · exact Or.inl (mS ..)
    · rcases putE_mem h with h | h
      · exact Or.inl (mO _ h)
      · exact Or.inr h
  · split at h
    · rcases mI.1 h with rfl | h
      · exact Or.inr rfl
      · exact Or.inl (mO _ h)
    · rcases mI.1 h with rfl | h
      · exact Or.inr rfl
      · exact Or.inl h
theorem zH3 {t : Int} {rep : Prop} [Decidable rep] {x : GTree} : ∀ {es : List GEntry}, es.Pairwise zP2 → (putE t rep x es).Pairwise zP2
 | [], _ => by simp [putE]
 | a :: es, h => by
  rw [pC] at h
  rw [putE]; split
  · rename_i hlt
    rw [pC]
    refine ⟨?_, zH3 h.2⟩
    intro b hb
    rcases putE_mem hb with hb | hb
    · exact h.1 b hb
    · unfold zP2; omega
  · split
    · rename_i hge heq
      rw [pC]
      refine ⟨?_, h.2⟩
      intro b hb
      have := h.1 b hb; unfold zP2 at *; simp only [zt1]; omega
    · rename_i hge hne
      rw [pC, pC]
      refine ⟨?_, h⟩
      intro b hb
      rcases mI.1 hb with rfl | hb
      · unfold zP2; simp only [zt1]; omega
      · have := h.1 b hb; unfold zP2 at *; simp only [zt1]; omega
theorem putE_len {t : Int} {rep : Prop} [Decidable rep] {x : GTree} : ∀ {es : List GEntry}, (putE t rep x es).length ≤ es.length + 1
 | [] => by rw [putE]; exact nR _
 | a :: es => by
  rw [putE]; split
  · rw [lC, lC]; have := putE_len (t := t) (rep := rep) (x := x) (es := es); omega
  · split <;> simp only [lC] <;> omega
theorem putE_all {t : Int} {rep : Prop} [Decidable rep] {x : GTree} {e : GEntry} : ∀ {es : List GEntry}, e ∈ putE t rep x es → e ∈ es ∨ (e.fTag = t ∧ e.fTrees.length = putN t rep es ∧ e.fTrees ≠ [])
 | [], h => by rw [putE, List.mem_singleton] at h; subst h; exact Or.inr ⟨rfl, rfl, by rw [zh1]; simp⟩
 | a :: es, h => by
  rw [putE] at h; rw [putN]; split at h
  · rename_i hlt
    rw [if_pos hlt]
    rcases mI.1 h with rfl | h
    · exact Or.inl (mS ..)
    · rcases putE_all h with h | h
      · exact Or.inl (mO _ h)
      · exact Or.inr h
  · rename_i hlt
    rw [if_neg hlt]
    split at h
    · rename_i heq
      rw [if_pos heq]
      rcases mI.1 h with rfl | h
      · refine Or.inr ⟨rfl, ?_, by rw [zh1]; simp⟩
        simp only [zh1, lP, List.length_singleton]; split <;> rfl
      · exact Or.inl (mO _ h)
    · rename_i hne
      rw [if_neg hne]
      rcases mI.1 h with rfl | h
      · exact Or.inr ⟨rfl, rfl, by rw [zh1]; simp⟩
      · exact Or.inl h
def zm2 : GTree := ⟨0, 0, [], [], []⟩
def isZ (m : GMessage) (e : GEntry) : Bool := decide ((check_Field m e.fTag).1.fLabel = 1) && valid_Zero (e.fTrees.headD zm2)
def zdel (m : GMessage) (es : List GEntry) : List GEntry := es.filter fun e => !isZ m e
theorem ze4 {m : GMessage} : ∀ {es : List GEntry}, (∀ e ∈ es, e.fTrees ≠ []) → zu1 m es = some (zdel m es)
 | [], _ => rfl
 | e :: es, h => by
  have he := h e (mS ..)
  rw [zu1, decode_message_1, bnd]
  have e1 : (if (check_Field m e.fTag).1.fLabel = 1 then (idxL e.fTrees 0).bind fun y2 => bnd (valid_Zero y2) fun r5 => some r5 else some false) = some (isZ m e) := by
   unfold isZ
   split
   · rename_i hl
     cases ht : e.fTrees with
     | nil => exact absurd ht he
     | cons a l =>
      rw [idx_t (Int.le_refl 0) (show (a :: l)[Int.toNat 0]? = some a from rfl), bS, bnd, hl]; rfl
   · rename_i hl
     rw [decide_eq_false hl, Bool.false_and]
  rw [e1, bS, bS, ze4 fun a ha => h a (mO _ ha), bS]
  unfold zdel; rw [List.filter_cons]
  cases isZ m e <;> rfl
def fldD (m : GMessage) (one : GType → GRaw → GTree × Int) : List GRaw → List GEntry → List GRaw → GTree × Int
 | [], es, rest => (⟨3, 0, [], zdel m es, srt rest⟩, 0)
 | r :: q, es, rest =>
  if (check_Field m r.fTag).2 = true then
   (if (one (check_Field m r.fTag).1.fType r).2 = 0 then
    (if putN r.fTag ((check_Field m r.fTag).1.fLabel = 3) es ≤ 64 then fldD m one q (putE r.fTag ((check_Field m r.fTag).1.fLabel = 3) (one (check_Field m r.fTag).1.fType r).1 es) rest else (zm2, 4))
   else (zm2, (one (check_Field m r.fTag).1.fType r).2))
  else fldD m one q es (rest ++ [r])
theorem checkField_tag {m : GMessage} {t : Int} (h : (check_Field m t).2 = true) : (check_Field m t).1.fTag = t ∧ (check_Field m t).1 ∈ m.fFields := by
 have key : ∀ (l : List GField) (i : Int), (check_Field.l4 t l i).2 = true → (check_Field.l4 t l i).1.fTag = t ∧ (check_Field.l4 t l i).1 ∈ l := by
  intro l
  induction l with
  | nil => intro i h; cases h
  | cons f l ih =>
   intro i h
   rw [check_Field.l4] at h ⊢
   split at h
   · rename_i hf
     rw [if_pos hf]; exact ⟨hf, mS ..⟩
   · rename_i hf
     rw [if_neg hf]
     obtain ⟨h1, h2⟩ := ih _ h
     exact ⟨h1, mO _ h2⟩
 exact key m.fFields 0 h
theorem fldD_eq {self : GSchema → GType → GRaw → Int → Option (GTree × Int)} {s : GSchema} {m : GMessage} {deep : Int} {one : GType → GRaw → GTree × Int} :
 ∀ {l : List GRaw} {es : List GEntry} {rest : List GRaw}, (∀ r ∈ l, 1 ≤ r.fTag ∧ r.fTag ≤ 500) → (∀ r ∈ l, ∀ y, self s y r deep = some (one y r)) → es.Pairwise zP2 → (∀ e ∈ es, (1 ≤ e.fTag ∧ e.fTag ≤ 500) ∧ e.fTrees ≠ [] ∧ e.fTrees.length ≤ 64) → es.length + l.length < 100000 → rest.length + l.length < 100000 →
 decode_message.l self s m deep l es rest = some (fldD m one l es rest)
 | [], es, rest, _, _, _, he, hn, hn' => by
  rw [decode_message.l, zM1 (by simp only [lZ] at hn; omega), bS, ze4 fun e h => (he e h).2.1, bS, sorted_eq (by simp only [lZ] at hn'; omega), bS, fldD]
 | r :: l, es, rest, ht, ho, hs, he, hn, hn' => by
  rw [lC] at hn hn'
  have hr := ht r (mS ..)
  have ht' : ∀ r ∈ l, 1 ≤ r.fTag ∧ r.fTag ≤ 500 := fun x hx => ht x (mO _ hx)
  have ho' : ∀ r ∈ l, ∀ y, self s y r deep = some (one y r) := fun x hx => ho x (mO _ hx)
  rw [decode_message.l, bnd, fldD]
  by_cases hf : (check_Field m r.fTag).2 = true
  · obtain ⟨hft, _⟩ := checkField_tag hf
    rw [if_pos hf, if_pos hf, ho r (mS ..), bS]
    by_cases h0 : (one (check_Field m r.fTag).1.fType r).2 = 0
    · rw [if_pos h0, if_pos h0, decode_put_eq hs (fun e h => (he e h).1) (by rw [hft]; exact hr) (by omega) (fun e h => by have := (he e h).2.2; omega), bS, hft]
      by_cases hp : putN r.fTag ((check_Field m r.fTag).1.fLabel = 3) es ≤ 64
      · rw [if_pos hp, if_pos (decide_eq_true hp)]
        refine fldD_eq (es := putE r.fTag ((check_Field m r.fTag).1.fLabel = 3) (one (check_Field m r.fTag).1.fType r).1 es) ht' ho' (zH3 hs) ?_ (by have := putE_len (t := r.fTag) (rep := (check_Field m r.fTag).1.fLabel = 3) (x := (one (check_Field m r.fTag).1.fType r).1) (es := es); omega) (by omega)
        intro e h
        rcases putE_all h with h | ⟨h1, h2, h3⟩
        · exact he e h
        · exact ⟨by rw [h1]; exact hr, h3, by omega⟩
      · rw [if_neg hp, if_neg (by simpa using hp)]; rfl
    · rw [if_neg h0, if_neg h0]; rfl
  · rw [if_neg hf, if_neg hf, zM1 (by omega), bS]
    exact fldD_eq ht' ho' hs he (by omega) (by rw [lP, List.length_singleton]; omega)
def msgOf (s : GSchema) (n : List UInt8) : GMessage := (check_Message s n).1
def oneD (msg : GMessage → List UInt8 → GTree × Int) (s : GSchema) (y : GType) (r : GRaw) : GTree × Int :=
 if (if y.fKind = 4 ∨ y.fKind = 5 ∨ y.fKind = 7 then r.fWire = 1 else r.fWire = 0) then
  (if y.fKind = 3 ∨ y.fKind = 6 then (if valid_Number y r.fN = true then (⟨1, r.fN, [], [], []⟩, 0) else (zm2, 11))
  else if y.fKind = 4 then (if zd5 r.fB = true then (⟨2, 0, r.fB, [], []⟩, 0) else (zm2, 9))
  else if y.fKind = 7 then msg (msgOf s y.fName) r.fB
  else (if r.fWire = 1 then ⟨2, 0, r.fB, [], []⟩ else ⟨1, r.fN, [], [], []⟩, 0))
 else (zm2, 8)
theorem oneD_eq {self : GSchema → GMessage → List UInt8 → Int → Option (GTree × Int)} {self2 : GSchema → GType → GRaw → Int → Option (GTree × Int)} {s : GSchema} {y : GType} {r : GRaw} {deep : Int} {msg : GMessage → List UInt8 → GTree × Int} (hw : r.fWire = 0 ∨ r.fWire = 1) (hb : r.fB.length ≤ 4096) (hd : deep < 1000) (hd' : 0 ≤ deep) (hs : self s (msgOf s y.fName) r.fB (deep + 1) = some (msg (msgOf s y.fName) r.fB)) :
 decode_one.body self self2 s y r deep = some (oneD msg s y r) := by
 have hv := runesV_eq (a := r.fB) (by omega)
 have ed : IntKind.i64.wrap (deep + 1) = deep + 1 := zW (by omega) (by omega)
 have hm : ∀ z : GTree × Int, some (z.1, z.2) = some z := fun z => rfl
 unfold decode_one.body decode_one.j2 decode_one.j26 decode_one.j3 decode_one.j6 decode_one.j4 oneD bnd
 unfold msgOf at hs ⊢
 simp only [zI3 (show r.fB.length ≤ 9223372036854775807 by omega), hv, ed, bS, hs]
 rcases hw with hw | hw <;> simp only [hw, reduceIte, reduceCtorEq, Int.reduceEq] <;>
  by_cases k4 : y.fKind = 4 <;> by_cases k5 : y.fKind = 5 <;> by_cases k7 : y.fKind = 7 <;> by_cases k3 : y.fKind = 3 <;> by_cases k6 : y.fKind = 6 <;>
  first
   | (exfalso; omega)
   | (simp only [k4, k5, k7, k3, k6, reduceIte, reduceCtorEq, Int.reduceEq, decide_true, decide_false, or_true, true_or, or_false, false_or, or_self, Bool.false_eq_true] <;> first | rfl | (cases valid_Number y r.fN <;> rfl) | (cases zd5 r.fB <;> rfl))
def getD (b : List UInt8) : List GRaw × Int := (wire_Get b).getD ([], 99)
theorem getD_eq (b : List UInt8) : wire_Get b = some (getD b) := by
 obtain ⟨r, e, _⟩ := zt4 b
 unfold getD; rw [e]; rfl
theorem getD_ok {b : List UInt8} (h : (getD b).2 = 0) : b = zk1 (getD b).1 ∧ b.length ≤ 4096 ∧ ∀ x ∈ (getD b).1, zs2 x := by
 obtain ⟨r, e, i, _⟩ := zt4 b
 rw [getD_eq] at e
 obtain rfl := Option.some.inj e
 exact i h
theorem zl4 : ∀ l : List GRaw, 2 * l.length ≤ (zk1 l).length
 | [] => Nat.zero_le _
 | r :: l => by
  rw [zd1, lP, lC]
  have := zl4 l; have := rawB_pos r; omega
def decM (s : GSchema) : Nat → GMessage → List UInt8 → GTree × Int
 | 0, _, _ => (zm2, 10)
 | d + 1, m, b => if (getD b).2 = 0 then fldD m (oneD (decM s d) s) (getD b).1 [] [] else (zm2, (getD b).2)
theorem zM2 (s : GSchema) : ∀ (d k : Nat) (m : GMessage) (b : List UInt8) (deep : Int), d ≤ 10 → deep = 11 - d → 2 * d + 1 ≤ k → decode_message k s m b deep = some (decM s d m b)
 | d, 0, m, b, deep, _, _, h => by omega
 | 0, k + 1, m, b, deep, _, h, _ => by
  rw [decode_message, decode_message.body, if_pos (by omega)]; rfl
 | d + 1, k + 1, m, b, deep, h10, hd, hk => by
  rw [decode_message, decode_message.body, if_neg (by omega), getD_eq, bS, decM]
  by_cases h0 : (getD b).2 = 0
  · rw [if_pos h0, if_pos h0]
    obtain ⟨hb, hl, hok⟩ := getD_ok h0
    have hlen : (getD b).1.length < 100000 := by
     have := zl4 (getD b).1
     rw [← hb] at this; omega
    refine fldD_eq ?_ ?_ List.Pairwise.nil (fun _ h => by cases h) (by rw [lZ]; omega) (by rw [lZ]; omega)
    · intro r hr
      have := zg2 (hok r hr).1
      exact ⟨this.1, this.2.1⟩
    · intro r hr y
      obtain ⟨k', rfl⟩ : ∃ k', k = k' + 1 := ⟨k - 1, by omega⟩
      rw [decode_one]
      have hc := (zg2 (hok r hr).1).2.2
      have hbl : r.fB.length ≤ 4096 := by
       rcases hc with ⟨_, hc⟩ | ⟨_, _, hc⟩
       · rw [hc]; decide
       · exact hc
      refine oneD_eq (by rcases hc with hc | hc; exact Or.inl hc.1; exact Or.inr hc.1) hbl (by omega) (by omega) ?_
      exact zM2 s d k' _ _ _ (by omega) (by omega) (by omega)
  · rw [if_neg h0, if_neg h0]; rfl
theorem decode_eq {s : GSchema} {name b : List UInt8} (hc : check_Check s = some 0) (hm : (check_Message s name).2 = true) : decode_Decode s name b = some (decM s 10 (msgOf s name) b) := by
 rw [decode_Decode, hc, bS, if_pos rfl, bnd, hm, if_neg (by decide), zM2 s 10 rounds _ b 1 (nR _) rfl (by have := zS; omega), bS]; rfl
end Go.Proofs.YtaddlmlpeghonaaDoor
end
section
set_option maxRecDepth 4000
namespace Go.Proofs.YtaddlmlpeghonaaDoor
open AM
def maxD (f : GTree → Nat) : List GTree → Nat → Nat
 | [], d => d
 | x :: l, d => maxD f l (max d (f x))
theorem maxD_ge {f : GTree → Nat} : ∀ (l : List GTree) (d : Nat), d ≤ maxD f l d
 | [], d => nR _
 | x :: l, d => Nat.le_trans (Nat.le_max_left _ _) (maxD_ge l _)
theorem maxD_mem {f : GTree → Nat} {x : GTree} : ∀ {l : List GTree} {d : Nat}, x ∈ l → f x ≤ maxD f l d
 | y :: l, d, h => by
  rw [maxD]
  rcases mI.1 h with rfl | h
  · exact Nat.le_trans (Nat.le_max_right _ _) (maxD_ge l _)
  · exact maxD_mem h
theorem maxD_le {f : GTree → Nat} {n : Nat} : ∀ {l : List GTree} {d : Nat}, d ≤ n → (∀ x ∈ l, f x ≤ n) → maxD f l d ≤ n
 | [], d, h, _ => h
 | x :: l, d, h, hl => maxD_le (l := l) (Nat.max_le.2 ⟨h, hl x (mS ..)⟩) fun y hy => hl y (mO _ hy)
theorem maxD_app (f : GTree → Nat) : ∀ (l m : List GTree) (d : Nat), maxD f (l ++ m) d = maxD f m (maxD f l d)
 | [], _, _ => rfl
 | x :: l, m, d => maxD_app f l m _
def kids (t : GTree) : List GTree := t.fEntries.flatMap GEntry.fTrees
def depT : Nat → GTree → Nat
 | 0, _ => 0
 | m + 1, t => if t.fKind = 3 then maxD (depT m) (kids t) 0 + 1 else 0
theorem depT_le : ∀ (m : Nat) (t : GTree), depT m t ≤ m
 | 0, _ => nR _
 | m + 1, t => by
  rw [depT]; split
  · exact Nat.succ_le_succ (maxD_le (Nat.zero_le _) fun x _ => depT_le m x)
  · exact Nat.zero_le _
theorem deep_l20 {self : GTree → Int → Option Int} {m : Nat} (hm : m < 1000) (hs : ∀ x, self x (m : Int) = some ((depT m x : Nat) : Int)) {x7 : Int} {rec10 : Int → Int → Option Int} : ∀ (l : List GTree) (i : Int) (d : Nat),
 value_deep.l20 self ((m + 1 : Nat) : Int) x7 rec10 l i (d : Int) = rec10 (x7 + 1) ((maxD (depT m) l d : Nat) : Int)
 | [], i, d => rfl
 | x :: l, i, d => by
  rw [value_deep.l20, show IntKind.i64.wrap (((m + 1 : Nat) : Int) - 1) = (m : Int) by rw [zW (by omega) (by omega)]; omega, hs, bS, maxD]
  have e : (if (d : Int) < ((depT m x : Nat) : Int) then ((depT m x : Nat) : Int) else (d : Int)) = ((max d (depT m x) : Nat) : Int) := by split <;> omega
  rw [e]; exact deep_l20 hm hs l _ _
theorem deep_l10 {self : GTree → Int → Option Int} {m : Nat} (hm : m < 1000) (hs : ∀ x, self x (m : Int) = some ((depT m x : Nat) : Int)) : ∀ (l : List GEntry) (i : Int) (d : Nat), d ≤ 1000 →
 value_deep.l10 self ((m + 1 : Nat) : Int) l i (d : Int) = some ((maxD (depT m) (l.flatMap GEntry.fTrees) d + 1 : Nat) : Int)
 | [], i, d, hd => by
  rw [value_deep.l10, zW (by omega) (by omega), fZ, maxD]; rfl
 | e :: l, i, d, hd => by
  rw [value_deep.l10, deep_l20 hm hs, deep_l10 hm hs l _ _ (maxD_le hd fun x _ => Nat.le_trans (depT_le m x) (by omega)), fC, maxD_app]
theorem deep_eq : ∀ (m k : Nat) (t : GTree), m < 1000 → m < k → value_deep k t (m : Int) = some ((depT m t : Nat) : Int)
 | m, 0, t, _, h => by omega
 | 0, k + 1, t, _, _ => by
  rw [value_deep, value_deep.body, if_pos (by simp)]; rfl
 | m + 1, k + 1, t, hm, hk => by
  rw [value_deep, value_deep.body, depT]
  by_cases h3 : t.fKind = 3
  · rw [if_neg (by simp only [h3, decide_true, Bool.not_true, Bool.false_or, decide_eq_true_eq]; omega), if_pos h3]
    exact deep_l10 (by omega) (fun x => deep_eq m k x (by omega) (by omega)) t.fEntries 0 0 (by omega)
  · rw [if_pos (by simp [h3]), if_neg h3]; rfl
theorem Depth_eq (t : GTree) : value_Depth t = some ((depT 101 t : Nat) : Int) := by
 rw [value_Depth, show (101 : Int) = ((101 : Nat) : Int) from rfl, deep_eq 101 rounds t (by omega) (by have := zS; omega)]; rfl
def risB : List GRaw → Bool
 | a :: b :: l => decide (a.fTag ≤ b.fTag) && risB (b :: l)
 | _ => true
theorem risB_iff : ∀ {l : List GRaw}, risB l = true ↔ l.Pairwise TagLe
 | [] => by simp [risB]
 | [a] => by simp [risB]
 | a :: b :: l => by
  rw [risB, Bool.and_eq_true, decide_eq_true_eq, risB_iff, pC (a := a)]
  constructor
  · rintro ⟨h1, h2⟩
    refine ⟨?_, h2⟩
    intro c hc
    rcases mI.1 hc with rfl | hc
    · exact h1
    · have := (pC.1 h2).1 c hc; unfold TagLe at *; omega
  · rintro ⟨h1, h2⟩
    exact ⟨h1 b (mS ..), h2⟩
theorem rising_l {L : List GRaw} (hL : L.length < 4611686018427387904) : ∀ (k : Nat) (A : List GRaw) (a : GRaw) (B : List GRaw), L = A ++ a :: B → B.length < k → wire_Rising.l4 L k ((A.length + 1 : Nat) : Int) = some (risB (a :: B))
 | 0, _, _, _, _, h => by omega
 | k + 1, A, a, [], h, _ => by
  rw [wire_Rising.l4, if_neg (by rw [h, lP, List.length_singleton]; omega)]; rfl
 | k + 1, A, a, b :: B, h, hk => by
  have hl : L.length = A.length + (B.length + 2) := by rw [h, lP, lC, lC]
  have e1 : idxL L ((A.length + 1 : Nat) : Int) = some b := by
   rw [h, show A ++ a :: b :: B = (A ++ [a]) ++ b :: B by rw [aA]; rfl]
   exact zn3 (by rw [lP, List.length_singleton])
  have e2 : IntKind.i64.wrap (((A.length + 1 : Nat) : Int) - 1) = (A.length : Int) := by rw [zW (by omega) (by omega)]; omega
  have e3 : idxL L (A.length : Int) = some a := by rw [h]; exact zn3 rfl
  have e4 : IntKind.i64.wrap (((A.length + 1 : Nat) : Int) + 1) = (((A ++ [a]).length + 1 : Nat) : Int) := by rw [zW (by omega) (by omega), lP, List.length_singleton]; omega
  rw [wire_Rising.l4, if_pos (by omega), e1, bS, e2, e3, bS, risB]
  by_cases hlt : b.fTag < a.fTag
  · rw [if_pos hlt, decide_eq_false (by omega)]; rfl
  · rw [if_neg hlt, e4, rising_l hL k (A ++ [a]) b B (by rw [h, aA]; rfl) (by simpa using hk), decide_eq_true (by omega), Bool.true_and]
theorem rising_eq {l : List GRaw} (h : l.length < 4611686018427387904) : wire_Rising l = some (risB l) := by
 cases l with
 | nil => rfl
 | cons a l => exact rising_l h rounds [] a l rfl (by have := zS; rw [lC] at h; omega)
def restB (t : GTree) : Bool := t.fRest.all (fun r => wire_Check r && !(t.fEntries.any fun e => decide (e.fTag = r.fTag))) && risB t.fRest
theorem rest_l16 {x2 : Int} {rec4 : Int → Option Bool} {y : GRaw} : ∀ (l : List GEntry) (i : Int), value_rest.l16 x2 rec4 y l i = if (l.any fun e => decide (e.fTag = y.fTag)) = true then some false else rec4 (x2 + 1)
 | [], i => by rw [value_rest.l16]; rfl
 | e :: l, i => by
  rw [value_rest.l16, List.any_cons]
  by_cases h : e.fTag = y.fTag
  · rw [if_pos h, decide_eq_true h, Bool.true_or, if_pos rfl]
  · rw [if_neg h, decide_eq_false h, Bool.false_or, rest_l16]
theorem rest_l4 {t : GTree} (hr : t.fRest.length < 4611686018427387904) : ∀ (l : List GRaw) (i : Int), value_rest.l4 t l i = some (l.all (fun r => wire_Check r && !(t.fEntries.any fun e => decide (e.fTag = r.fTag))) && risB t.fRest)
 | [], i => by rw [value_rest.l4, rising_eq hr]; rfl
 | r :: l, i => by
  rw [value_rest.l4, bnd, List.all_cons]
  cases hc : wire_Check r with
  | false => rfl
  | true =>
   rw [if_neg (by decide), rest_l16]
   cases ha : t.fEntries.any fun e => decide (e.fTag = r.fTag) with
   | true => rfl
   | false => rw [if_neg (by decide), rest_l4 hr l]; rfl
theorem rest_eq {t : GTree} (hr : t.fRest.length < 4611686018427387904) : value_rest t = some (restB t) := rest_l4 hr _ _
def entB (f : GTree → Bool) : Int → List GEntry → Bool
 | _, [] => true
 | last, e :: l => decide (last < e.fTag ∧ e.fTag ≤ 500 ∧ 1 ≤ e.fTrees.length ∧ e.fTrees.length ≤ 64) && (e.fTrees.all fun x => decide (x.fKind = (e.fTrees.headD zm2).fKind) && f x) && entB f e.fTag l
def leafB (t : GTree) : Bool :=
 if t.fKind = 1 then decide (t.fS = []) && decide ((lN t.fEntries : Int) = 0) && decide ((lN t.fRest : Int) = 0)
 else if t.fKind = 2 then decide (t.fN = 0) && decide ((lN t.fEntries : Int) = 0) && decide ((lN t.fRest : Int) = 0)
 else false
def zC1 : Nat → GTree → Bool
 | 0, t => leafB t
 | d + 1, t => if t.fKind = 3 then decide (t.fN = 0) && decide (t.fS = []) && entB (zC1 d) 0 t.fEntries && restB t else leafB t
def ownS (t : GTree) : Prop := In64 t.fN ∧ t.fRest.length ≤ 900000 ∧ ∀ r ∈ t.fRest, In64 r.fN
def szT : Nat → GTree → Prop
 | 0, t => ownS t
 | d + 1, t => ownS t ∧ ∀ x ∈ kids t, szT d x
theorem zw5 {self : GTree → Option Bool} {f : GTree → Bool} {x3 : Int} {rec6 : Int → Int → Option Bool} {y : GEntry} (hy : 1 ≤ y.fTrees.length) : ∀ (l : List GTree) (i : Int), (∀ x ∈ l, self x = some (f x)) →
 value_entries.l18 self x3 rec6 y l i = if (l.all fun x => decide (x.fKind = (y.fTrees.headD zm2).fKind) && f x) = true then rec6 (x3 + 1) y.fTag else some false
 | [], i, _ => by rw [value_entries.l18]; rfl
 | x :: l, i, h => by
  have e1 : idxL y.fTrees 0 = some (y.fTrees.headD zm2) := by
   cases ht : y.fTrees with
   | nil => rw [ht] at hy; exact absurd hy (by decide)
   | cons a l => rfl
  rw [value_entries.l18, e1, bS, List.all_cons]
  by_cases hk : x.fKind = (y.fTrees.headD zm2).fKind
  · rw [if_pos hk, h x (mS ..), bS, decide_eq_true hk, Bool.true_and]
    cases f x with
    | false => rfl
    | true =>
     rw [value_entries.j25, if_neg (by decide), zw5 hy l _ fun z hz => h z (mO _ hz), Bool.true_and]
  · rw [if_neg hk, decide_eq_false hk]; rfl
theorem entries_l6 {self : GTree → Option Bool} {f : GTree → Bool} : ∀ (l : List GEntry) (i last : Int), (∀ e ∈ l, ∀ x ∈ e.fTrees, self x = some (f x)) → value_entries.l6 self l i last = some (entB f last l)
 | [], i, last, _ => rfl
 | e :: l, i, last, h => by
  rw [value_entries.l6, entB]
  by_cases hc : last < e.fTag ∧ e.fTag ≤ 500 ∧ 1 ≤ e.fTrees.length ∧ e.fTrees.length ≤ 64
  · rw [if_neg (by simp only [Bool.or_eq_true, decide_eq_true_eq]; omega), zw5 hc.2.2.1 e.fTrees 0 (h e (mS ..)), decide_eq_true hc, Bool.true_and]
    cases ha : e.fTrees.all fun x => decide (x.fKind = (e.fTrees.headD zm2).fKind) && f x with
    | false => rfl
    | true => rw [if_pos rfl, entries_l6 l _ _ fun y hy => h y (mO _ hy), Bool.true_and]
  · rw [if_pos (by simp only [Bool.or_eq_true, decide_eq_true_eq]; omega), decide_eq_false hc]; rfl
theorem zu3 {t : GTree} {e : GEntry} {x : GTree} (he : e ∈ t.fEntries) (hx : x ∈ e.fTrees) : x ∈ kids t := List.mem_flatMap.2 ⟨e, he, hx⟩
theorem right_eq : ∀ (d m k : Nat) (t : GTree), d < m → depT m t ≤ d → 2 * d < k → szT d t → value_right k t = some (zC1 d t)
 | d, m, 0, t, _, _, h, _ => by omega
 | 0, m + 1, k + 1, t, _, hd, _, hz => by
  have h3 : ¬ t.fKind = 3 := by
   intro h; rw [depT, if_pos h] at hd; omega
  rw [value_right, value_right.body, zC1, leafB, if_neg h3]
  split <;> first | rfl | (split <;> rfl)
 | d + 1, m + 1, k + 1, t, hm, hd, hk, hz => by
  rw [value_right, value_right.body, zC1]
  by_cases h3 : t.fKind = 3
  · have hd' : maxD (depT m) (kids t) 0 ≤ d := by rw [depT, if_pos h3] at hd; omega
    obtain ⟨k', rfl⟩ : ∃ k', k = k' + 1 := ⟨k - 1, by omega⟩
    have he : value_entries (k' + 1) t = some (entB (zC1 d) 0 t.fEntries) := by
     rw [value_entries, value_entries.body]
     exact entries_l6 t.fEntries 0 0 fun e he x hx => right_eq d m k' x (by omega) (Nat.le_trans (maxD_mem (zu3 he hx)) hd') (by omega) (hz.2 x (zu3 he hx))
    rw [if_neg (by omega), if_neg (by omega), if_pos h3, if_pos h3, he, rest_eq (by have := hz.1.2.1; omega)]
    cases decide (t.fN = 0) && decide (t.fS = []) with
    | false => rfl
    | true => cases entB (zC1 d) 0 t.fEntries <;> rfl
  · rw [if_neg h3, if_neg h3, leafB]
    split <;> first | rfl | (split <;> rfl)
def zO2 (t : GTree) : Bool := decide (depT 101 t ≤ 10) && zC1 10 t
theorem check_eq {t : GTree} (hz : szT 10 t) : value_Check t = some (zO2 t) := by
 rw [value_Check, Depth_eq, bS, zO2]
 by_cases h : depT 101 t ≤ 10
 · rw [if_pos (by omega), right_eq 10 101 rounds t (by omega) h (by have := zS; omega) hz, decide_eq_true h, Bool.true_and]; rfl
 · rw [if_neg (by omega), decide_eq_false h]; rfl
end Go.Proofs.YtaddlmlpeghonaaDoor
end
