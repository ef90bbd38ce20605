/- Parts of the proof, cut down to what it needs. -/
import Derived.Test.YtaddlmlpeghonaaDoorWFB
set_option linter.constructorNameAsVariable false
set_option linter.unusedSimpArgs false
set_option linter.unusedVariables false
namespace Go.Proofs.YtaddlmlpeghonaaDoor
open _root_.List renaming length → qc, flatMap → qg, length_append → qi, length_cons → qk, length_nil → qn, mem_cons_self → qo, mem_cons_of_mem → qp, append_assoc → qr, getD_eq_getElem?_getD → qs, append_nil → qx, map_nil → qy, length_eq_zero_iff → qz, nil_append → qA, cons_append → qC, mem_cons → qD, replicate → qF, length_singleton → qG, drop_zero → qJ, getElem?_append_left → qK, map_cons → qM, getElem?_eq_getElem → qO, flatMap_cons → qP, map_append → qR, getElem?_eq_some_iff → qU, length_map → qV, range_zero → qY, all_cons → qZ, flatMap_append → q1, all_eq_true → q3, getElem?_set_ne → q5, take_of_length_le → uc, getElem?_append_right → ue, all_nil → uf, range_succ → ug, take_length → ui, pairwise_cons → uj, take_append_drop → uk, flatMap_nil → un, getElem?_set_self → uo, mem_append_right → uq, getElem?_eq_none → ur, filter_cons → ut, mem_map → uv, range → uz, set_cons_zero → uA, mem_append → uC, mem_singleton → uD, length_take → uF, length_drop → uG, getElem?_cons_zero → uH, getElem?_cons_succ → uI, set_cons_succ → uO
open _root_.Option renaming bind_some → qf, map_some → ux, getD_some → uN
open _root_.Nat renaming reduceEqDiff → qa, reduceLT → qb, reduceAdd → qd, reduceLeDiff → qe, le_refl → qq, zero_add → qt, lt_succ_self → qu, reduceMul → qw, reduceSub → qL, mul_le_mul_right → qQ, lt_of_lt_of_le → ua, reduceMod → ul, zero_le → um, le_trans → uu, zero_mul → uy, sub_zero → uL, sub_self → uM, succ_mul → uP, add_zero → uQ, add_mul → uR
open _root_.Bool renaming and_eq_true → ql, or_eq_true → qH, not_false → qI, and_self → qS, false_eq_true → qT, or_true → qW, not_true → qX, and_true → q2, or_false → ub, and_false → ud, not_eq_true' → uw, true_and → uE, false_ne_true → uJ, false_or → uK
open _root_.Int renaming toNat → qB, toNat_natCast → qN
open _root_.BitVec renaming ofInt → qv, toNat → uh
open _root_.Array renaming length_toList → q9, getD_eq_getD_getElem? → uB, getElem?_eq_getElem → uS
open _root_.UInt8 renaming ofNat → q7
open Result renaming andThen_ok → qj
open Sem renaming run_bind → qm, run_pure → qE
open _root_.Go.Proofs.Tryd renaming prog → qh
section
set_option maxRecDepth 4000
set_option maxHeartbeats 1000000
open AM
theorem Zl.ev (a0 : Int) (r : GValueValue) (h : Zl a0 = r) (σ : Store) : ACalls qh 122 [.int .i64 a0] σ (fun r' σ' => r' = .agg (encGValueValue r) ∧ σ' = σ) :=
 (Zl.ok a0 r h).c σ
def Zk (a0 : List UInt8) : GValueValue :=
 (GValueValue.str a0)
theorem Zk.ok (a0 : List UInt8) (r : GValueValue) (h : Zk a0 = r) : ACalls qh 123 [.str a0] [] (fun r' _ => r' = .agg (encGValueValue r)) := by
 refine zn (rs := [.cell 2 127]) tok Tryd.func123 rfl Tryd.ntmps123 rfl Tryd.call123 (by simp) ?_
 refine zt [(0, .str a0)] ⟨rfl, trivial⟩ ?_
 unfold Zk at h
 refine rg tok [0, 2] fun K hK => ?_
 simp only [go_sem, qb, reduceCtorEq]
 apply hK
 refine rg tok [2] fun K hK => ?_
 simp only [go_sem, qb, qe, qa, reduceCtorEq]
 apply hK
 refine zj ?_
 obtain rfl := h
 exact yr
theorem Zk.ev (a0 : List UInt8) (r : GValueValue) (h : Zk a0 = r) (σ : Store) : ACalls qh 123 [.str a0] σ (fun r' σ' => r' = .agg (encGValueValue r) ∧ σ' = σ) :=
 (Zk.ok a0 r h).c σ
def yB (a0 : List GRaw) : Option (List GRaw) := (YN (qc a0) 40).bind fun _ => some a0
theorem yB.ok (a0 r : List GRaw) (h : yB a0 = some r) : ACalls qh 124 [.ds true (qg encGRaw a0) (qc a0) false] [] (fun r' _ => r' = .ds true (qg encGRaw r) (qc r) false) := by
 obtain ⟨_u, hu, h⟩ := bind_some h
 have gu := yy hu
 obtain rfl := Option.some.inj h
 have f1 := fun nl tt σ => xP E22.len a0 nl tt σ
 have f2 := zK E22.len a0
 have f3 := ZG encGRaw a0
 have fin : ∀ σ id ver tt, Store.at σ id ver = some (qg encGRaw a0) → tell σ [] true 12 (.os true 4 id ver 0 (qc a0) tt) = .ds true (qg encGRaw a0) (qc a0) false := by
  intro σ id ver tt hs
  simp only [wT, wD, hs, qJ, qt]
  rw [if_pos (by rw [f2]; exact qq _), ← f2, ui, yj]
 refine zn (rs := [.tmp 2]) tok Tryd.func124 rfl Tryd.ntmps124 rfl Tryd.call124 (by simp) ?_
 refine zt [(0, .ds true (qg encGRaw a0) (qc a0) false)] ⟨rfl, trivial⟩ ?_
 refine rg tok [0] fun K hK => ?_
 simp only [go_sem, qb, reduceCtorEq]
 apply hK
 refine zd fun Z1 hZ1 => ?_
 refine rc [0, 4] fun K hK => ?_
 refine zb tok 1 ?_
 simp only [go_sem, qb]
 refine XV tok rfl rfl rfl rfl rfl rfl fun b hnil => ?_
 have hb : b = true → a0 = [] := fun hb => by
  have := hnil hb
  simp only [yq, go_sem, reduceCtorEq] at this
  exact List.eq_nil_of_length_eq_zero this
 clear hnil
 refine za ?_
 simp only [ze, ZP, upd, qa, reduceIte, zl, zq]
 apply hK
 cases b
 · refine zz rfl ?_
   refine zh ?_
   apply hZ1
   refine rg tok [2] fun K hK => ?_
   by_cases h0 : qc a0 = 0
   · obtain rfl := List.eq_nil_of_length_eq_zero h0
     simp only [go_sem, qb, qa, qd, reduceCtorEq, zR, z8, qY, um, yn, zY, yq, yb, un, qn, uy, uf]
     apply hK
     refine zj ?_
     simp only [ZF, xd, xl, xY, exists_eq_left', go_sem]
     first | rfl | (simp only [go_sem, qb, qe, qa, qd, qw, qL, reduceIte, reduceCtorEq, wT, wD, qy] <;> rfl)
   have h1 := eq_false h0
   simp only [go_sem, qb, qa, qd, reduceCtorEq, zR, z8, qY, um, yn, zY, yq, f1, f3, h1, gu, yS, qy, qA, uy]
   apply hK
   refine zj ?_
   simp only [ZF, xd, xl, xY, exists_eq_left', go_sem]
   exact fin _ _ _ _ (by simp only [Store.at_hd, Store.at_tl, if_true])
 obtain rfl := hb rfl
 refine zB rfl ?_
 refine rg tok [2] fun K hK => ?_
 simp only [go_sem, qb, qa, reduceCtorEq]
 apply hK
 refine zj ?_
 simp only [ZF, xd, xl, xY, exists_eq_left', go_sem]
 first | rfl | (simp only [go_sem, qb, qe, qa, qd, qw, qL, reduceIte, reduceCtorEq, Ym, qy, qW, qX, ud] <;> rfl)
theorem yB.own (a0 r : List GRaw) (h : yB a0 = some r) : ACalls qh 124 [.ds true (qg encGRaw a0) (qc a0) false] [] (fun r' σ' => r' = .os true 4 0 0 0 (qc r) false ∧ σ' = [.cells 0 (qg encGRaw r)]) := by
 obtain ⟨_u, hu, h⟩ := bind_some h
 have gu := yy hu
 obtain rfl := Option.some.inj h
 have f1 := fun nl tt σ => xP E22.len a0 nl tt σ
 have f2 := zK E22.len a0
 have f3 := ZG encGRaw a0
 refine vbu (rs := [.tmp 2]) tok Tryd.func124 rfl Tryd.ntmps124 rfl Tryd.call124 (by simp) ?_
 refine zt [(0, .ds true (qg encGRaw a0) (qc a0) false)] ⟨rfl, trivial⟩ ?_
 refine rg tok [0] fun K hK => ?_
 simp only [go_sem, qb, reduceCtorEq]
 apply hK
 refine zd fun Z1 hZ1 => ?_
 refine rc [0, 4] fun K hK => ?_
 refine zb tok 1 ?_
 simp only [go_sem, qb]
 refine XV tok rfl rfl rfl rfl rfl rfl fun b hnil => ?_
 have hb : b = true → a0 = [] := fun hb => by
  have := hnil hb
  simp only [yq, go_sem, reduceCtorEq] at this
  exact List.eq_nil_of_length_eq_zero this
 clear hnil
 refine za ?_
 simp only [ze, ZP, upd, qa, reduceIte, zl, zq]
 apply hK
 cases b
 · refine zz rfl ?_
   refine zh ?_
   apply hZ1
   refine rg tok [2] fun K hK => ?_
   by_cases h0 : qc a0 = 0
   · obtain rfl := List.eq_nil_of_length_eq_zero h0
     simp only [go_sem, qb, qa, qd, reduceCtorEq, zR, z8, qY, um, yn, zY, yq, yb, un, qn, uy, uf]
     apply hK
     refine zj ?_
     simp only [ZF, xd, xl, xY, exists_eq_left', go_sem]
     refine .inl ⟨0, true, by simp, ?_, ?_⟩
     · first | rfl | (simp only [go_sem, qb, qe, qa, qd, qw, qL, reduceIte, reduceCtorEq, wT, wG, if_true] <;> rfl)
     first | rfl | (simp only [go_sem, qb, qe, qa, qd, qw, qL, reduceIte, reduceCtorEq, ZS, vaO, Zw, ZU, ZT, qy] <;> rfl)
   have h1 := eq_false h0
   simp only [go_sem, qb, qa, qd, reduceCtorEq, zR, z8, qY, um, yn, zY, yq, f1, f3, h1, gu, yS, qy, qA, uy]
   apply hK
   refine zj ?_
   simp only [ZF, xd, xl, xY, exists_eq_left', go_sem, qd]
   refine .inl ⟨1, false, by simp, ?_, ?_⟩
   · first | rfl | (simp only [go_sem, qb, qe, qa, qd, qw, qL, reduceIte, reduceCtorEq, wT, wG, if_true] <;> rfl)
   first | rfl | (simp only [go_sem, ZS, Zw, ZU, ZT, yj] <;> rfl)
 obtain rfl := hb rfl
 refine zB rfl ?_
 refine rg tok [2] fun K hK => ?_
 simp only [go_sem, qb, qa, reduceCtorEq]
 apply hK
 refine zj ?_
 simp only [ZF, xd, xl, xY, exists_eq_left', go_sem]
 refine .inr ?_
 first | rfl | (simp only [go_sem, qb, qe, qa, qd, qw, qL, reduceIte, reduceCtorEq, Ym, qy, qW, ub, qI, q2] <;> rfl)
theorem yB.ev (a0 r : List GRaw) (h : yB a0 = some r) (σ : Store) : ACalls qh 124 [.ds true (qg encGRaw a0) (qc a0) false] σ (fun r' σ' => r' = .ds true (qg encGRaw r) (qc r) false ∧ σ' = σ) :=
 (yB.ok a0 r h).pureAt (by simp only [AV.canon, canonL, canon_all, qS, qI, Bool.true_or]) (by simp only [AV.canon, canon_all, qS, qI, Bool.true_or]) σ
def zG.l35 (yi : GTree → Option GValueValue) (l14 : List GValueEntry) (x16 : Int) (rec20 : List GValueEntry → Int → Option GValueValue) (y25 : GEntry) : List GTree → Int → List GValueValue → Option GValueValue
 | [], x31, l29 => (YN (qc l14 + 1) 32).bind fun _u37 => (rec20 (l14 ++ [(⟨y25.fTag, l29⟩ : GValueEntry)]) (IntKind.i64.wrap (x16 + 1)))
 | y35 :: q35, x31, l29 => (yi y35).bind fun r43 => (YN (qc l29 + 1) 16).bind fun _u45 => ((zG.l35 yi l14 x16 rec20 y25 q35) (x31 + 1) (l29 ++ [r43]))
def zG.l20 (yi : GTree → Option GValueValue) (a0 : GTree) (r12 : List GRaw) : Nat → List GValueEntry → Int → Option GValueValue
 | 0, _, _ => none
 | k20 + 1, l14, x16 => (if x16 < (qc a0.fEntries : Int) then (Zj a0.fEntries x16).bind fun y25 => (zG.l35 yi l14 x16 (zG.l20 yi a0 r12 k20) y25 y25.fTrees 0 ([] : List GValueValue)) else some (GValueValue.node l14 r12))
def zG.l62 (yi : GTree → Option GValueValue) (a0 : GTree) (r12 : List GRaw) (y52 : GEntry) : List GTree → Int → List GValueValue → Option GValueValue
 | [], x58, l56 => (zG.l20 yi a0 r12 rounds [(⟨y52.fTag, l56⟩ : GValueEntry)] (IntKind.i64.wrap (0 + 1)))
 | y62 :: q62, x58, l56 => (yi y62).bind fun r68 => (YN (qc l56 + 1) 16).bind fun _u70 => ((zG.l62 yi a0 r12 y52 q62) (x58 + 1) (l56 ++ [r68]))
def zG.body (yi : GTree → Option GValueValue) (a0 : GTree) : Option GValueValue :=
 (if a0.fKind = 1 then bnd (Zl a0.fN) fun r4 => some r4 else (if a0.fKind = 2 then bnd (Zk a0.fS) fun r9 => some r9 else (yB a0.fRest).bind fun r12 => (if 0 < (qc a0.fEntries : Int) then (Zj a0.fEntries 0).bind fun y52 => (zG.l62 yi a0 r12 y52 y52.fTrees 0 ([] : List GValueValue)) else some (GValueValue.node ([] : List GValueEntry) r12))))
theorem zG.step (yi : GTree → Option GValueValue) (ih_value_made : ∀ (a0 : GTree) (r : GValueValue), yi a0 = some r → ACalls qh 103 [.agg (cellsGTree a0)] [] (fun r' _ => r' = .agg (encGValueValue r))) (a0 : GTree) (r : GValueValue) (h : zG.body yi a0 = some r) : ACalls qh 103 [.agg (cellsGTree a0)] [] (fun r' _ => r' = .agg (encGValueValue r)) := by
 have ev_value_made := fun a0 r h σ => (ih_value_made a0 r h).c σ
 refine zn (rs := [.cell 2 127]) tok Tryd.func103 rfl Tryd.ntmps103 rfl Tryd.call103 (by simp) ?_
 refine zt [(0, .agg (cellsGTree a0))] ⟨rfl, trivial⟩ ?_
 unfold zG.body at h
 refine rg tok [1, 2] fun K hK => ?_
 simp only [go_sem, qb, qa, qd, reduceCtorEq, cellsGTree]
 apply hK
 refine zd fun Z1 hZ1 => ?_
 refine rg tok [1, 2, 10] fun K hK => ?_
 simp only [go_sem, qb, qa, qd]
 apply hK
 refine zk ?_
 refine rg tok [1, 2, 10, 11] fun K hK => ?_
 simp only [go_sem, qb, qa]
 apply hK
 refine zI rfl (fun hc2 => ?_) (fun hc2 => ?_)
 · rw [if_pos hc2] at h
   have t3 := eq_true hc2
   refine rc [2] fun K hK => ?_
   obtain ⟨r4, hr4, h⟩ := zS h
   refine zb tok 2 ?_
   simp only [go_sem, qb, qa, qd, t3]
   refine zi rfl rfl rfl (Zl.ev a0.fN r4 hr4 _) ?_
   rintro _ _ ⟨rfl, rfl⟩
   have f5 := Zb r4
   unfold AV.one at f5
   refine zb tok 1 ?_
   simp only [go_sem, qe, qa, encGValueValue, f5]
   refine za ?_
   simp only [ze, upd, qa, reduceIte, zl, zq]
   apply hK
   refine zj ?_
   obtain rfl := Option.some.inj h
   exact yr
 rw [if_neg hc2] at h
 have t6 := eq_false hc2
 refine rg tok [1, 2, 16] fun K hK => ?_
 simp only [go_sem, qb, qa, t6]
 apply hK
 refine zI rfl (fun hc7 => ?_) (fun hc7 => ?_)
 · rw [if_pos hc7] at h
   have t8 := eq_true hc7
   refine rc [2] fun K hK => ?_
   obtain ⟨r9, hr9, h⟩ := zS h
   refine zb tok 2 ?_
   simp only [go_sem, qb, qa, qd, t8]
   refine zi rfl rfl rfl (Zk.ev a0.fS r9 hr9 _) ?_
   rintro _ _ ⟨rfl, rfl⟩
   have f10 := Zb r9
   unfold AV.one at f10
   refine zb tok 1 ?_
   simp only [go_sem, qe, qa, encGValueValue, f10]
   refine za ?_
   simp only [ze, upd, qa, reduceIte, zl, zq]
   apply hK
   refine zj ?_
   obtain rfl := Option.some.inj h
   exact yr
 rw [if_neg hc7] at h
 have t11 := eq_false hc7
 refine zh ?_
 apply hZ1
 refine rc [1, 2, 3] fun K hK => ?_
 obtain ⟨r12, hr12, h⟩ := bind_some h
 refine zb tok 2 ?_
 simp only [go_sem, qb, qa, qd, t11]
 refine zi rfl rfl rfl (yB.ev a0.fRest r12 hr12 _) ?_
 rintro _ _ ⟨rfl, rfl⟩
 refine zb tok 3 ?_
 simp only [go_sem, qb, qe, qa, qd]
 refine za ?_
 simp only [ze, upd, qa, reduceIte, zl, zq]
 apply hK
 refine zd fun Z13 hZ13 => ?_
 refine rg tok [2, 3, 27, 28, 29] fun K hK => ?_
 simp only [go_sem, qb, qa, qd]
 apply hK
 refine zk ?_
 refine awp_loopS1 (fun m L τ => ∃ (k20 : Nat) (l14 : List GValueEntry) (x16 : Int) (v15 : Nat), m = 0 + k20 ∧ L = ([(2, .op 0 0 0), (3, .op 1 0 0), (27, .ds true (qg encGEntry a0.fEntries) (qc a0.fEntries) false), (28, .int .i64 (qc a0.fEntries : Int)), (29, .int .i64 x16)] : List (Nat × AV)) ∧ τ = ([.cells 0 [.nilI], .cells 0 [.os true 2 2 v15 0 (qc l14) false, .ds true (qg encGRaw r12) (qc r12) false], .cells v15 (qg encGValueEntry l14)] : Store) ∧ zG.l20 yi a0 r12 k20 l14 x16 = some r) (rounds + 1) ?_ ?_
 · refine rg tok [2, 3, 27, 28, 29, 30] fun K hK => ?_
   simp only [go_sem, qb, qa]
   apply hK
   refine zd fun Z48 hZ48 => ?_
   refine zI rfl (fun hc49 => ?_) (fun hc49 => ?_)
   · rw [if_pos hc49] at h
     have t50 := eq_true hc49
     refine zh ?_
     apply hZ48
     refine zd fun Z51 hZ51 => ?_
     refine zk ?_
     obtain ⟨y52, hy52, h⟩ := bind_some h
     have f53 := E40.idxS hy52
     have f54 := E40.loadS rfl rfl hy52
     refine rg tok [2, 3, 5, 27, 28, 29] fun K hK => ?_
     simp only [go_sem, qb, qe, qa, qd, cellsGEntry, yY, t50, f53, f54]
     apply hK
     refine rg tok [2, 3, 5, 6, 27, 28, 29] fun K hK => ?_
     simp only [go_sem, qb, qe, qa, qd]
     apply hK
     refine ZC 4 1 1 rfl (by simp) rfl (L := [(2, .op 1 0 0), (3, .op 2 0 0), (5, .op 3 0 0), (6, .op 4 0 0), (27, .ds true (qg encGEntry a0.fEntries) (qc a0.fEntries) false), (28, .int .i64 (qc a0.fEntries : Int)), (29, .int .i64 0)]) (τ := [.cells 0 (cellsGTree a0), .cells 0 [.nilI], .cells 0 [.ds true [] 0 true, .ds true (qg encGRaw r12) (qc r12) false], .cells 0 (cellsGEntry y52), .cells 0 [.int .i64 y52.fTag, .os true 1 5 0 0 (qc ([] : List GValueValue)) false], .cells 0 (qg encGValueValue ([] : List GValueValue))]) .s ?_
     refine zd fun Z55 hZ55 => ?_
     refine rg tok [2, 3, 6, 27, 28, 29, 37, 38, 39] fun K hK => ?_
     simp only [go_sem, qb, qa, qd]
     apply hK
     refine zk ?_
     refine yW 37 fun hb62 => ?_
     replace hb62 : qc y52.fTrees ≤ 9223372036854775807 := hb62.1
     refine zF (fun m L τ => ∃ (p62 q62 : List GTree) (x58 : Int) (l56 : List GValueValue) (v57 : Nat), m = qc q62 ∧ L = ([(2, .op 0 0 0), (3, .op 1 0 0), (6, .op 2 0 0), (27, .ds true (qg encGEntry a0.fEntries) (qc a0.fEntries) false), (28, .int .i64 (qc a0.fEntries : Int)), (29, .int .i64 0), (37, .ds true (qg encGTree y52.fTrees) (qc y52.fTrees) false), (38, .int .i64 (qc y52.fTrees : Int)), (39, .int .i64 x58)] : List (Nat × AV)) ∧ τ = ([.cells 0 [.nilI], .cells 0 [.ds true [] 0 true, .ds true (qg encGRaw r12) (qc r12) false], .cells 0 [.int .i64 y52.fTag, .os true 1 3 v57 0 (qc l56) false], .cells v57 (qg encGValueValue l56)] : Store) ∧ y52.fTrees = p62 ++ q62 ∧ x58 = (qc p62 : Int) ∧ zG.l62 yi a0 r12 y52 q62 x58 l56 = some r) _ ⟨[], y52.fTrees, 0, ([] : List GValueValue), 0, rfl, rfl, rfl, rfl, rfl, h⟩ (.t [1, 2, 4, 5] false) ?_
     rintro m L τ ⟨p62, q62, x58, l56, v57, rfl, rfl, rfl, hE62, hi62, h⟩
     rcases q62 with _ | ⟨y62, q62⟩
     · have hz62 := yz hE62 hi62
       simp only [zG.l62] at h
       refine rg tok [2, 3, 6, 27, 28, 29, 37, 38, 39, 40] fun K hK => ?_
       simp only [go_sem, qb, qa, hz62]
       apply hK
       refine zd fun Z63 hZ63 => ?_
       refine zz rfl ?_
       refine zM ?_
       apply hZ55
       refine rdE [2, 3, 27, 28, 29] fun K hK => ?_
       refine DW.start (T := tab) [.any, .any, .any, .any, .own 1 [], .at [], .eff, .eff, .any, .any, .eff] [(1, [])] ?_
       refine DW.runN tok 8 ?_
       simp only [go_sem, qb, qe, qa, qd, qw, reduceCtorEq, zR, z8, ug, qY, true_and, ul, yn, zY, yq, yS, uf, qZ, AV.one, qS, qA, qk, qn, qt, qC]
       refine DW.runN tok 3 ?_
       simp only [go_sem, qb, qe, qa, qd, qk, qn, qt]
       refine DW.fin tok (by decide +kernel) rfl ?_
       simp only [ze, upd, qa, reduceIte, zl, zq]
       apply hK
       apply hZ51
       refine rgE tok [2, 3, 27, 28, 29] fun K hK => ?_
       simp only [go_sem, qb, qa]
       apply hK
       exact ⟨_, _, _, (Nat.lt_succ_of_le (Nat.le_of_eq (qt rounds))), ⟨rounds, [(⟨y52.fTag, l56⟩ : GValueEntry)], IntKind.i64.wrap (0 + 1), 0, rfl, rfl, rfl, h⟩, (.t [0, 1, 5] false)⟩
     obtain ⟨hz62, hw62, hx62, hE'62, hi'62⟩ := yg hE62 hi62 hb62
     simp only [zG.l62] at h
     refine rg tok [2, 3, 6, 27, 28, 29, 37, 38, 39, 40] fun K hK => ?_
     simp only [go_sem, qb, qa, hz62]
     apply hK
     refine zd fun Z64 hZ64 => ?_
     refine zB rfl ?_
     refine zh ?_
     apply hZ64
     refine zd fun Z65 hZ65 => ?_
     refine zk ?_
     have f66 := E59.idxS hx62
     have f67 := E59.loadS rfl rfl hx62
     refine rg tok [2, 3, 6, 8, 27, 28, 29, 37, 38, 39] fun K hK => ?_
     simp only [go_sem, qb, qe, qa, qd, cellsGTree, xB, f66, f67]
     apply hK
     obtain ⟨r68, hr68, h⟩ := bind_some h
     have f69 := Zb r68
     unfold AV.one at f69
     obtain ⟨_u70, hu70, h⟩ := bind_some h
     have gu70 := yy hu70
     have f71 := (zK E155.len l56)
     refine rdE [2, 3, 6, 27, 28, 29, 37, 38, 39] fun K hK => ?_
     refine DW.start (T := tab) [.any, .own 2 [], .at [], .eff, .eff, .eff, .any, .eff] [(2, [])] ?_
     refine DW.runN tok 3 ?_
     simp only [go_sem, qb, qe, qa, qd, encGValueValue, qk, qn, qt]
     refine DW.call rfl rfl rfl (ev_value_made y62 r68 hr68 _) ?_
     refine DW.runN tok 4 ?_
     simp only [go_sem, qb, qe, qa, qd, qw, zR, z8, ug, qY, true_and, ul, yn, zY, yq, encGValueValue, f69, gu70, f71, yS, uf, qZ, AV.one, qS, qA, qk, qn, qt, qC]
     refine DW.fin tok (by decide +kernel) rfl ?_
     simp only [ze, upd, qa, reduceIte, zl, zq]
     apply hK
     apply hZ65
     refine rgE tok [2, 3, 6, 27, 28, 29, 37, 38, 39] fun K hK => ?_
     simp only [go_sem, qb, qa, hw62]
     apply hK
     exact ⟨_, _, _, qu q62.length, ⟨p62 ++ [y62], q62, x58 + 1, l56 ++ [r68], v57 + 1, rfl, rfl, rfl, hE'62, hi'62, h⟩, (.t [0, 1, 2, 3] false)⟩
   rw [if_neg hc49] at h
   have t72 := eq_false hc49
   refine zM ?_
   apply hZ13
   refine rg tok [2] fun K hK => ?_
   simp only [go_sem, qb, qe, qa, t72]
   apply hK
   refine zj ?_
   obtain rfl := Option.some.inj h
   exact yr
 clear h
 rintro m L τ ⟨k20, l14, x16, v15, rfl, rfl, rfl, h⟩
 rcases k20 with _ | k20
 · cases h
 simp only [zG.l20] at h
 refine rg tok [2, 3, 27, 28, 29, 30] fun K hK => ?_
 simp only [go_sem, qb, qa]
 apply hK
 refine zd fun Z21 hZ21 => ?_
 refine zI rfl (fun hc22 => ?_) (fun hc22 => ?_)
 · rw [if_pos hc22] at h
   have t23 := eq_true hc22
   refine zh ?_
   apply hZ21
   refine zd fun Z24 hZ24 => ?_
   refine zk ?_
   obtain ⟨y25, hy25, h⟩ := bind_some h
   have f26 := E40.idxS hy25
   have f27 := E40.loadS rfl rfl hy25
   refine rg tok [2, 3, 5, 27, 28, 29] fun K hK => ?_
   simp only [go_sem, qb, qe, qa, qd, cellsGEntry, yY, t23, f26, f27]
   apply hK
   refine rg tok [2, 3, 5, 6, 27, 28, 29] fun K hK => ?_
   simp only [go_sem, qb, qe, qa, qd]
   apply hK
   refine ZC 4 1 1 rfl (by simp) rfl (L := [(2, .op 0 0 0), (3, .op 1 0 0), (5, .op 3 0 0), (6, .op 4 0 0), (27, .ds true (qg encGEntry a0.fEntries) (qc a0.fEntries) false), (28, .int .i64 (qc a0.fEntries : Int)), (29, .int .i64 x16)]) (τ := [.cells 0 [.nilI], .cells 0 [.os true 2 2 v15 0 (qc l14) false, .ds true (qg encGRaw r12) (qc r12) false], .cells v15 (qg encGValueEntry l14), .cells 0 (cellsGEntry y25), .cells 0 [.int .i64 y25.fTag, .os true 1 5 0 0 (qc ([] : List GValueValue)) false], .cells 0 (qg encGValueValue ([] : List GValueValue))]) .s ?_
   refine zd fun Z28 hZ28 => ?_
   refine rg tok [2, 3, 6, 27, 28, 29, 37, 38, 39] fun K hK => ?_
   simp only [go_sem, qb, qa, qd]
   apply hK
   refine zk ?_
   refine yW 37 fun hb35 => ?_
   replace hb35 : qc y25.fTrees ≤ 9223372036854775807 := hb35.1
   refine zF (fun m L τ => ∃ (p35 q35 : List GTree) (x31 : Int) (l29 : List GValueValue) (v30 : Nat), m = qc q35 ∧ L = ([(2, .op 0 0 0), (3, .op 1 0 0), (6, .op 3 0 0), (27, .ds true (qg encGEntry a0.fEntries) (qc a0.fEntries) false), (28, .int .i64 (qc a0.fEntries : Int)), (29, .int .i64 x16), (37, .ds true (qg encGTree y25.fTrees) (qc y25.fTrees) false), (38, .int .i64 (qc y25.fTrees : Int)), (39, .int .i64 x31)] : List (Nat × AV)) ∧ τ = ([.cells 0 [.nilI], .cells 0 [.os true 2 2 v15 0 (qc l14) false, .ds true (qg encGRaw r12) (qc r12) false], .cells v15 (qg encGValueEntry l14), .cells 0 [.int .i64 y25.fTag, .os true 1 4 v30 0 (qc l29) false], .cells v30 (qg encGValueValue l29)] : Store) ∧ y25.fTrees = p35 ++ q35 ∧ x31 = (qc p35 : Int) ∧ zG.l35 yi l14 x16 (zG.l20 yi a0 r12 k20) y25 q35 x31 l29 = some r) _ ⟨[], y25.fTrees, 0, ([] : List GValueValue), 0, rfl, rfl, rfl, rfl, rfl, h⟩ (.t [0, 1, 2, 4, 5] false) ?_
   rintro m L τ ⟨p35, q35, x31, l29, v30, rfl, rfl, rfl, hE35, hi35, h⟩
   rcases q35 with _ | ⟨y35, q35⟩
   · have hz35 := yz hE35 hi35
     simp only [zG.l35] at h
     refine rg tok [2, 3, 6, 27, 28, 29, 37, 38, 39, 40] fun K hK => ?_
     simp only [go_sem, qb, qa, hz35]
     apply hK
     refine zd fun Z36 hZ36 => ?_
     refine zz rfl ?_
     refine zM ?_
     apply hZ28
     obtain ⟨_u37, hu37, h⟩ := bind_some h
     have gu37 := yy hu37
     have f38 := (zK E172.len l14)
     refine rdE [2, 3, 27, 28, 29] fun K hK => ?_
     refine DW.start (T := tab) [.any, .any, .any, .any, .own 1 [], .at [], .eff, .eff, .any, .any, .eff] [(1, [])] ?_
     refine DW.runN tok 8 ?_
     simp only [go_sem, qb, qe, qa, qd, qw, zR, z8, ug, qY, true_and, ul, yn, zY, yq, gu37, f38, yS, uf, qZ, AV.one, qS, qA, qk, qn, qt, qC]
     refine DW.runN tok 3 ?_
     simp only [go_sem, qb, qe, qa, qd, qk, qn, qt]
     refine DW.fin tok (by decide +kernel) rfl ?_
     simp only [ze, upd, qa, reduceIte, zl, zq]
     apply hK
     apply hZ24
     refine rgE tok [2, 3, 27, 28, 29] fun K hK => ?_
     simp only [go_sem, qb, qa]
     apply hK
     exact ⟨_, _, _, qu (0 + k20), ⟨k20, l14 ++ [(⟨y25.fTag, l29⟩ : GValueEntry)], IntKind.i64.wrap (x16 + 1), v15 + 1, rfl, rfl, rfl, h⟩, (.t [0, 1, 2] false)⟩
   obtain ⟨hz35, hw35, hx35, hE'35, hi'35⟩ := yg hE35 hi35 hb35
   simp only [zG.l35] at h
   refine rg tok [2, 3, 6, 27, 28, 29, 37, 38, 39, 40] fun K hK => ?_
   simp only [go_sem, qb, qa, hz35]
   apply hK
   refine zd fun Z39 hZ39 => ?_
   refine zB rfl ?_
   refine zh ?_
   apply hZ39
   refine zd fun Z40 hZ40 => ?_
   refine zk ?_
   have f41 := E59.idxS hx35
   have f42 := E59.loadS rfl rfl hx35
   refine rg tok [2, 3, 6, 8, 27, 28, 29, 37, 38, 39] fun K hK => ?_
   simp only [go_sem, qb, qe, qa, qd, cellsGTree, xB, f41, f42]
   apply hK
   obtain ⟨r43, hr43, h⟩ := bind_some h
   have f44 := Zb r43
   unfold AV.one at f44
   obtain ⟨_u45, hu45, h⟩ := bind_some h
   have gu45 := yy hu45
   have f46 := (zK E155.len l29)
   refine rdE [2, 3, 6, 27, 28, 29, 37, 38, 39] fun K hK => ?_
   refine DW.start (T := tab) [.any, .own 2 [], .at [], .eff, .eff, .eff, .any, .eff] [(2, [])] ?_
   refine DW.runN tok 3 ?_
   simp only [go_sem, qb, qe, qa, qd, encGValueValue, qk, qn, qt]
   refine DW.call rfl rfl rfl (ev_value_made y35 r43 hr43 _) ?_
   refine DW.runN tok 4 ?_
   simp only [go_sem, qb, qe, qa, qd, qw, zR, z8, ug, qY, true_and, ul, yn, zY, yq, encGValueValue, f44, gu45, f46, yS, uf, qZ, AV.one, qS, qA, qk, qn, qt, qC]
   refine DW.fin tok (by decide +kernel) rfl ?_
   simp only [ze, upd, qa, reduceIte, zl, zq]
   apply hK
   apply hZ40
   refine rgE tok [2, 3, 6, 27, 28, 29, 37, 38, 39] fun K hK => ?_
   simp only [go_sem, qb, qa, hw35]
   apply hK
   exact ⟨_, _, _, qu q35.length, ⟨p35 ++ [y35], q35, x31 + 1, l29 ++ [r43], v30 + 1, rfl, rfl, rfl, hE'35, hi'35, h⟩, (.t [0, 1, 2, 3, 4] false)⟩
 rw [if_neg hc22] at h
 have t47 := eq_false hc22
 refine zM ?_
 apply hZ13
 refine rg tok [2] fun K hK => ?_
 simp only [go_sem, qb, qe, qa, t47]
 apply hK
 refine zj ?_
 obtain rfl := Option.some.inj h
 exact yr
def zG : Nat → GTree → Option GValueValue
 | 0, _ => none
 | k + 1, a0 => zG.body (zG k) a0
theorem zG.all (k : Nat) : (∀ (a0 : GTree) (r : GValueValue), zG k a0 = some r → ACalls qh 103 [.agg (cellsGTree a0)] [] (fun r' _ => r' = .agg (encGValueValue r))) := by
 induction k with
 | zero => exact (fun a0 r h => by simp only [zG] at h; cases h)
 | succ k ih => exact (fun a0 r h => zG.step _ ih a0 r (by simpa only [zG] using h))
theorem zG.ev (k : Nat) (a0 : GTree) (r : GValueValue) (h : zG k a0 = some r) (σ : Store) : ACalls qh 103 [.agg (cellsGTree a0)] σ (fun r' σ' => r' = .agg (encGValueValue r) ∧ σ' = σ) :=
 ((zG.all k) a0 r h).c σ
def Zi (a0 : GTree) : Option (GValueValue × Bool) :=
 (xX a0).bind fun r2 => (if (!r2) = true then some (GValueValue.nil, false) else (zG rounds a0).bind fun r4 => some (r4, true))
theorem Zi.ok (a0 : GTree) (r : GValueValue × Bool) (h : Zi a0 = some r) : ACalls qh 74 [.agg (cellsGTree a0)] [] (fun r' _ => r' = .tup [.agg (encGValueValue r.1), .bool r.2]) := by
 refine zn (rs := [.cell 2 127, .tmp 3]) tok Tryd.func74 rfl Tryd.ntmps74 rfl Tryd.call74 (by simp) ?_
 refine zt [(0, .agg (cellsGTree a0))] ⟨rfl, trivial⟩ ?_
 unfold Zi at h
 refine rg tok [1, 2] fun K hK => ?_
 simp only [go_sem, qb, qa, qd, reduceCtorEq, cellsGTree]
 apply hK
 refine zd fun Z1 hZ1 => ?_
 refine rc [1, 2, 6] fun K hK => ?_
 obtain ⟨r2, hr2, h⟩ := bind_some h
 refine zb tok 1 ?_
 simp only [go_sem, qb, qe, qa, qd]
 refine zi rfl rfl rfl (xX.ev a0 r2 hr2 _) ?_
 rintro _ _ ⟨rfl, rfl⟩
 refine zb tok 1 ?_
 simp only [go_sem, qb, qa]
 refine za ?_
 simp only [ze, upd, qa, reduceIte, zl, zq]
 apply hK
 refine zv (b := (!r2)) rfl (fun hc3 => ?_) (fun hc3 => ?_)
 · rw [if_pos hc3] at h
   refine rg tok [2, 3] fun K hK => ?_
   simp only [go_sem, qb, qe, qa]
   apply hK
   refine zj ?_
   obtain rfl := Option.some.inj h
   exact yr
 rw [xD hc3] at h
 refine zh ?_
 apply hZ1
 refine rc [2, 3] fun K hK => ?_
 obtain ⟨r4, hr4, h⟩ := bind_some h
 refine zb tok 1 ?_
 simp only [go_sem, qb, qe, qa, qd]
 refine zi rfl rfl rfl (zG.ev rounds a0 r4 hr4 _) ?_
 rintro _ _ ⟨rfl, rfl⟩
 have f5 := Zb r4
 unfold AV.one at f5
 refine zb tok 2 ?_
 simp only [go_sem, qb, qe, qa, encGValueValue, f5]
 refine za ?_
 simp only [ze, upd, qa, reduceIte, zl, zq]
 apply hK
 refine zj ?_
 obtain rfl := Option.some.inj h
 exact yr
theorem Zi.ev (a0 : GTree) (r : GValueValue × Bool) (h : Zi a0 = some r) (σ : Store) : ACalls qh 74 [.agg (cellsGTree a0)] σ (fun r' σ' => r' = .tup [.agg (encGValueValue r.1), .bool r.2] ∧ σ' = σ) :=
 (Zi.ok a0 r h).c σ
def yu (a0 : GValueValue) : Option GValueNode :=
 (match a0 with | .nil => none | .num n2 => none | .str s2 => none | .node e2 r2 => some (⟨e2, r2⟩ : GValueNode))
theorem yu.ok (a0 : GValueValue) (r : GValueNode) (h : yu a0 = some r) : ACalls qh 76 [.agg (encGValueValue a0)] [] (fun r' _ => r' = .dp (encGValueNode r) 0) := by
 refine zn (rs := [.tmp 2]) tok Tryd.func76 rfl Tryd.ntmps76 rfl Tryd.call76 (by simp) ?_
 refine zt [(0, .agg (encGValueValue a0))] ⟨rfl, trivial⟩ ?_
 unfold yu at h
 have f1 := Zb a0
 unfold AV.one at f1
 refine rg tok [1] fun K hK => ?_
 simp only [go_sem, qb, qa, reduceCtorEq, encGValueValue, f1]
 apply hK
 rcases a0 with _ | n2 | s2 | ⟨e2, r2⟩
 · dsimp only at h
   try simp only [vaC]
   cases h
 · dsimp only at h
   try simp only [vaB]
   cases h
 · dsimp only at h
   try simp only [vaA]
   cases h
 dsimp only at h
 try simp only [YQ]
 refine rg tok [2] fun K hK => ?_
 simp only [go_sem, qb, qa, xu, xy, TypeDesc.isIface]
 apply hK
 refine zj ?_
 obtain rfl := Option.some.inj h
 exact yr
theorem yu.ev (a0 : GValueValue) (r : GValueNode) (h : yu a0 = some r) (σ : Store) : ACalls qh 76 [.agg (encGValueValue a0)] σ (fun r' σ' => r' = .dp (encGValueNode r) 0 ∧ σ' = σ) :=
 (yu.ok a0 r h).c σ
def wb (a0 : GValueNode) : Option (List GRaw) :=
 (yB a0.frest).bind fun r1 => some r1
theorem wb.own (a0 : GValueNode) (r : List GRaw) (h : wb a0 = some r) : ACalls qh 104 [.dp (encGValueNode a0) 0] [] (fun r' σ' => r' = .os true 4 0 0 0 (qc r) false ∧ σ' = [.cells 0 (qg encGRaw r)]) := by
 refine ACalls.own0 (by simp only [push_cast]) ?_
 refine Y6 (rs := [.tmp 2]) tok Tryd.func104 rfl Tryd.ntmps104 rfl Tryd.call104 (by simp) ?_
 refine zt [(0, .dp (encGValueNode a0) 0)] ⟨rfl, trivial⟩ ?_
 unfold wb at h
 refine rg tok [0] fun K hK => ?_
 simp only [go_sem, qb, reduceCtorEq]
 apply hK
 refine rc [2] fun K hK => ?_
 obtain ⟨r1, hr1, h⟩ := bind_some h
 refine zb tok 4 ?_
 simp only [go_sem, qb, qa, qd, reduceCtorEq, encGValueNode, XC]
 refine zi rfl rfl rfl (@id (ACalls qh 124 [.ds true (qg encGRaw a0.frest) (qc a0.frest) false] [] (fun r' σ' => r' = .os true 4 0 0 0 (qc r1) false ∧ σ' = [.cells 0 (qg encGRaw r1)])) ((yB.own a0.frest r1 hr1).ownAt0 (by simp only [push_cast]) (by simp only [push_cast]) _)) ?_
 rintro _ _ ⟨rfl, rfl⟩
 refine zb tok 1 ?_
 simp only [go_sem, qb, qa, reduceCtorEq]
 refine za ?_
 simp only [ze, upd, qa, reduceIte, zl, zq]
 apply hK
 refine zj ?_
 obtain rfl := Option.some.inj h
 simp only [ZF, xd, xl, xY, exists_eq_left', go_sem]
 refine ⟨0, 0, by simp, ?_, ?_⟩
 · first | rfl | (simp only [go_sem, qb, qe, qa, qd, qw, qL, reduceIte, reduceCtorEq, push_cast, if_true, qJ, qt, qM, qy, qR, qW, ub, q2, ud, qX, qI, yj, encGRaw] <;> rfl)
 first | rfl | (simp only [go_sem, push_cast, qy, yj] <;> rfl)
def zW.l8 : List GValueEntry → Int → List Int → Option (List Int)
 | [], x4, l2 => some l2
 | y8 :: q8, x4, l2 => (YN (qc l2 + 1) 8).bind fun _u14 => ((zW.l8 q8) (x4 + 1) (l2 ++ [y8.ftag]))
def zW (a0 : GValueNode) : Option (List Int) :=
 (zW.l8 a0.fentries 0 ([] : List Int))
theorem zW.own (a0 : GValueNode) (r : List Int) (h : zW a0 = some r) : ACalls qh 105 [.dp (encGValueNode a0) 0] [] (fun r' σ' => r' = .os true 1 0 0 0 (qc r) false ∧ σ' = [.cells 0 (qg encI r)]) := by
 refine ACalls.own0 (by simp only [push_cast]) ?_
 refine Y6 (rs := [.tmp 2]) tok Tryd.func105 rfl Tryd.ntmps105 rfl Tryd.call105 (by simp) ?_
 refine zt [(0, .dp (encGValueNode a0) 0)] ⟨rfl, trivial⟩ ?_
 unfold zW at h
 refine rg tok [0] fun K hK => ?_
 simp only [go_sem, qb, reduceCtorEq]
 apply hK
 refine rg tok [0, 3] fun K hK => ?_
 simp only [go_sem, qb, reduceCtorEq]
 apply hK
 refine Zm 3 1 rfl ?_
 refine yc (L := [(0, .dp (encGValueNode a0) 0), (3, .os true 1 0 0 0 (qc ([] : List Int)) false)]) (τ := [.cells 0 (qg encI ([] : List Int))]) .s ?_
 refine zd fun Z1 hZ1 => ?_
 refine rg tok [3, 9, 10, 11] fun K hK => ?_
 simp only [go_sem, qb, qa, qd, reduceCtorEq, encGValueNode, XC]
 apply hK
 refine zk ?_
 refine yW 9 fun hb8 => ?_
 replace hb8 : qc a0.fentries ≤ 9223372036854775807 := hb8.1
 refine zF (fun m L τ => ∃ (p8 q8 : List GValueEntry) (x4 : Int) (l2 : List Int) (v3 : Nat), m = qc q8 ∧ L = ([(3, .os true 1 0 v3 0 (qc l2) false), (9, .ds true (qg encGValueEntry a0.fentries) (qc a0.fentries) false), (10, .int .i64 (qc a0.fentries : Int)), (11, .int .i64 x4)] : List (Nat × AV)) ∧ τ = ([.cells v3 (qg encI l2)] : Store) ∧ a0.fentries = p8 ++ q8 ∧ x4 = (qc p8 : Int) ∧ zW.l8 q8 x4 l2 = some r) _ ⟨[], a0.fentries, 0, ([] : List Int), 0, rfl, rfl, rfl, rfl, rfl, h⟩ .s ?_
 rintro m L τ ⟨p8, q8, x4, l2, v3, rfl, rfl, rfl, hE8, hi8, h⟩
 rcases q8 with _ | ⟨y8, q8⟩
 · have hz8 := yz hE8 hi8
   simp only [zW.l8] at h
   refine rg tok [3, 9, 10, 11, 12] fun K hK => ?_
   simp only [go_sem, qb, qa, hz8]
   apply hK
   refine zd fun Z9 hZ9 => ?_
   refine zz rfl ?_
   refine zM ?_
   apply hZ1
   refine rg tok [2] fun K hK => ?_
   simp only [go_sem, qb, qa]
   apply hK
   refine zj ?_
   obtain rfl := Option.some.inj h
   simp only [ZF, xd, xl, xY, exists_eq_left', go_sem]
   refine ⟨0, v3, by simp, ?_, ?_⟩
   · first | rfl | (simp only [go_sem, qb, qe, qa, qd, qw, qL, reduceIte, reduceCtorEq, push_cast, if_true, qJ, qt, qM, qy, qR, qW, ub, q2, ud, qX, qI, yj] <;> rfl)
   first | rfl | (simp only [go_sem, push_cast, qy, yj] <;> rfl)
 obtain ⟨hz8, hw8, hx8, hE'8, hi'8⟩ := yg hE8 hi8 hb8
 simp only [zW.l8] at h
 refine rg tok [3, 9, 10, 11, 12] fun K hK => ?_
 simp only [go_sem, qb, qa, hz8]
 apply hK
 refine zd fun Z10 hZ10 => ?_
 refine zB rfl ?_
 refine zh ?_
 apply hZ10
 refine zd fun Z11 hZ11 => ?_
 refine zk ?_
 have f12 := E172.idxS hx8
 have f13 := E172.loadS rfl rfl hx8
 refine rg tok [3, 5, 9, 10, 11] fun K hK => ?_
 simp only [go_sem, qb, qe, qa, qd, cellsGValueEntry, xr, f12, f13]
 apply hK
 obtain ⟨_u14, hu14, h⟩ := bind_some h
 have gu14 := yy hu14
 have f15 := (zK E24.len l2)
 refine rgE tok [3, 9, 10, 11] fun K hK => ?_
 simp only [go_sem, qb, qe, qa, qd, qw, zR, z8, ug, qY, true_and, ul, yn, zY, yq, gu14, f15, yS, uf, qZ, AV.one, qS, qA, qk, qn, qt, qC]
 apply hK
 apply hZ11
 refine rgE tok [3, 9, 10, 11] fun K hK => ?_
 simp only [go_sem, qb, qa, hw8]
 apply hK
 exact ⟨_, _, _, qu q8.length, ⟨p8 ++ [y8], q8, x4 + 1, l2 ++ [y8.ftag], v3 + 1, rfl, rfl, rfl, hE'8, hi'8, h⟩, (.t [0] false)⟩
theorem zW.ok (a0 : GValueNode) (r : List Int) (h : zW a0 = some r) : ACalls qh 105 [.dp (encGValueNode a0) 0] [] (fun r' _ => r' = .ds true (qg encI r) (qc r) false) :=
 (zW.own a0 r h).ownData (zK E24.len r) (by simp only [push_cast])
theorem zW.ev (a0 : GValueNode) (r : List Int) (h : zW a0 = some r) (σ : Store) : ACalls qh 105 [.dp (encGValueNode a0) 0] σ (fun r' σ' => r' = .ds true (qg encI r) (qc r) false ∧ σ' = σ) :=
 (zW.ok a0 r h).c σ
def xQ (a0 : List GValueValue) : Option (List GValueValue) := (YN (qc a0) 16).bind fun _ => some a0
theorem xQ.own (a0 r : List GValueValue) (h : xQ a0 = some r) : ACalls qh 125 [.ds true (qg encGValueValue a0) (qc a0) false] [] (fun r' σ' => r' = .os true 1 0 0 0 (qc r) false ∧ σ' = [.cells 0 (qg encGValueValue r)]) := by
 obtain ⟨_u, hu, h⟩ := bind_some h
 have gu := yy hu
 obtain rfl := Option.some.inj h
 have f1 := fun nl tt σ => xP E155.len a0 nl tt σ
 have f2 := zK E155.len a0
 have f3 := ZG encGValueValue a0
 refine vbu (rs := [.tmp 2]) tok Tryd.func125 rfl Tryd.ntmps125 rfl Tryd.call125 (by simp) ?_
 refine zt [(0, .ds true (qg encGValueValue a0) (qc a0) false)] ⟨rfl, trivial⟩ ?_
 refine rg tok [0] fun K hK => ?_
 simp only [go_sem, qb, reduceCtorEq]
 apply hK
 refine zd fun Z1 hZ1 => ?_
 refine rc [0, 4] fun K hK => ?_
 refine zb tok 1 ?_
 simp only [go_sem, qb]
 refine XV tok rfl rfl rfl rfl rfl rfl fun b hnil => ?_
 have hb : b = true → a0 = [] := fun hb => by
  have := hnil hb
  simp only [yq, go_sem, reduceCtorEq] at this
  exact List.eq_nil_of_length_eq_zero this
 clear hnil
 refine za ?_
 simp only [ze, ZP, upd, qa, reduceIte, zl, zq]
 apply hK
 cases b
 · refine zz rfl ?_
   refine zh ?_
   apply hZ1
   refine rg tok [2] fun K hK => ?_
   by_cases h0 : qc a0 = 0
   · obtain rfl := List.eq_nil_of_length_eq_zero h0
     simp only [go_sem, qb, qa, reduceCtorEq, zR, z8, qY, um, yn, zY, yq, yb, un, qn, uy, uf]
     apply hK
     refine zj ?_
     simp only [ZF, xd, xl, xY, exists_eq_left', go_sem]
     refine .inl ⟨0, true, by simp, ?_, ?_⟩
     · first | rfl | (simp only [go_sem, qb, qe, qa, qd, qw, qL, reduceIte, reduceCtorEq, wT, wG, if_true] <;> rfl)
     first | rfl | (simp only [go_sem, qb, qe, qa, qd, qw, qL, reduceIte, reduceCtorEq, ZS, vaO, Zw, ZU, ZT, qy] <;> rfl)
   have h1 := eq_false h0
   simp only [go_sem, qb, qa, reduceCtorEq, zR, z8, qY, um, yn, zY, yq, f1, f3, h1, gu, yS, qy, qA, uy]
   apply hK
   refine zj ?_
   simp only [ZF, xd, xl, xY, exists_eq_left', go_sem, qd]
   refine .inl ⟨1, false, by simp, ?_, ?_⟩
   · first | rfl | (simp only [go_sem, qb, qe, qa, qd, qw, qL, reduceIte, reduceCtorEq, wT, wG, if_true] <;> rfl)
   first | rfl | (simp only [go_sem, ZS, Zw, ZU, ZT, yj] <;> rfl)
 obtain rfl := hb rfl
 refine zB rfl ?_
 refine rg tok [2] fun K hK => ?_
 simp only [go_sem, qb, qa, reduceCtorEq]
 apply hK
 refine zj ?_
 simp only [ZF, xd, xl, xY, exists_eq_left', go_sem]
 refine .inr ?_
 first | rfl | (simp only [go_sem, qb, qe, qa, qd, qw, qL, reduceIte, reduceCtorEq, Ym, qy, qW, ub, qI, q2] <;> rfl)
def yk.l4 (a1 : Int) : List GValueEntry → Int → Option (List GValueValue)
 | [], x2 => some ([] : List GValueValue)
 | y4 :: q4, x2 => (if y4.ftag = a1 then (xQ y4.fl).bind fun r12 => some r12 else ((yk.l4 a1 q4) (x2 + 1)))
def yk (a0 : GValueNode) (a1 : Int) : Option (List GValueValue) :=
 (yk.l4 a1 a0.fentries 0)
theorem yk.ok (a0 : GValueNode) (a1 : Int) (r : List GValueValue) (h : yk a0 a1 = some r) : ACalls qh 106 [.dp (encGValueNode a0) 0, .int .i64 a1] [] (fun r' _ => r' = .ds true (qg encGValueValue r) (qc r) false) := by
 refine zn (rs := [.tmp 4]) tok Tryd.func106 rfl Tryd.ntmps106 rfl Tryd.call106 (by simp) ?_
 refine zt [(0, .dp (encGValueNode a0) 0), (1, .int .i64 a1)] ⟨rfl, rfl, trivial⟩ ?_
 unfold yk at h
 refine rg tok [0, 1] fun K hK => ?_
 simp only [go_sem, qb, qa, reduceCtorEq]
 apply hK
 refine zd fun Z1 hZ1 => ?_
 refine rg tok [1, 10, 11, 12] fun K hK => ?_
 simp only [go_sem, qb, qa, qd, reduceCtorEq, encGValueNode, XC]
 apply hK
 refine zk ?_
 refine yW 10 fun hb4 => ?_
 replace hb4 : qc a0.fentries ≤ 9223372036854775807 := hb4.1
 refine zF (fun m L τ => ∃ (p4 q4 : List GValueEntry) (x2 : Int), m = qc q4 ∧ L = ([(1, .int .i64 a1), (10, .ds true (qg encGValueEntry a0.fentries) (qc a0.fentries) false), (11, .int .i64 (qc a0.fentries : Int)), (12, .int .i64 x2)] : List (Nat × AV)) ∧ τ = ([] : Store) ∧ a0.fentries = p4 ++ q4 ∧ x2 = (qc p4 : Int) ∧ yk.l4 a1 q4 x2 = some r) _ ⟨[], a0.fentries, 0, rfl, rfl, rfl, rfl, rfl, h⟩ .s ?_
 rintro m L τ ⟨p4, q4, x2, rfl, rfl, rfl, hE4, hi4, h⟩
 rcases q4 with _ | ⟨y4, q4⟩
 · have hz4 := yz hE4 hi4
   simp only [yk.l4] at h
   refine rg tok [1, 10, 11, 12, 13] fun K hK => ?_
   simp only [go_sem, qb, qa, hz4]
   apply hK
   refine zd fun Z5 hZ5 => ?_
   refine zz rfl ?_
   refine zM ?_
   apply hZ1
   refine rg tok [4] fun K hK => ?_
   simp only [go_sem, qb, qa]
   apply hK
   refine zj ?_
   obtain rfl := Option.some.inj h
   exact yr
 obtain ⟨hz4, hw4, hx4, hE'4, hi'4⟩ := yg hE4 hi4 hb4
 simp only [yk.l4] at h
 refine rg tok [1, 10, 11, 12, 13] fun K hK => ?_
 simp only [go_sem, qb, qa, hz4]
 apply hK
 refine zd fun Z6 hZ6 => ?_
 refine zB rfl ?_
 refine zh ?_
 apply hZ6
 refine zd fun Z7 hZ7 => ?_
 refine zk ?_
 have f8 := E172.idxS hx4
 have f9 := E172.loadS rfl rfl hx4
 refine rg tok [1, 6, 10, 11, 12] fun K hK => ?_
 simp only [go_sem, qb, qe, qa, qd, cellsGValueEntry, xr, f8, f9]
 apply hK
 refine rg tok [1, 6, 10, 11, 12, 19] fun K hK => ?_
 simp only [go_sem, qb, qa, qd]
 apply hK
 refine zI rfl (fun hc10 => ?_) (fun hc10 => ?_)
 · rw [if_pos hc10] at h
   have t11 := eq_true hc10
   refine rc [4] fun K hK => ?_
   obtain ⟨r12, hr12, h⟩ := bind_some h
   refine zb tok 2 ?_
   simp only [go_sem, qb, qa, qd, t11]
   refine zi rfl rfl rfl (@id (ACalls qh 125 [.ds true (qg encGValueValue y4.fl) (qc y4.fl) false] [.cells 0 (cellsGValueEntry y4)] (fun r' σ' => r' = .os true 1 1 0 0 (qc r12) false ∧ σ' = [.cells 0 (cellsGValueEntry y4), .cells 0 (qg encGValueValue r12)])) ((xQ.own y4.fl r12 hr12).ownAt0 (by simp only [push_cast]) (by simp only [push_cast]) _)) ?_
   rintro _ _ ⟨rfl, rfl⟩
   refine zb tok 1 ?_
   simp only [go_sem, qb, qa]
   refine za ?_
   simp only [ze, upd, qa, reduceIte, zl, zq]
   apply hK
   refine zj ?_
   obtain rfl := Option.some.inj h
   exact yr
 rw [if_neg hc10] at h
 have t13 := eq_false hc10
 refine zh ?_
 apply hZ7
 refine rgE tok [1, 10, 11, 12] fun K hK => ?_
 simp only [go_sem, qb, qa, hw4, t13]
 apply hK
 exact ⟨_, _, _, qu q4.length, ⟨p4 ++ [y4], q4, x2 + 1, rfl, rfl, rfl, hE'4, hi'4, h⟩, (.t [] false)⟩
theorem yk.ev (a0 : GValueNode) (a1 : Int) (r : List GValueValue) (h : yk a0 a1 = some r) (σ : Store) : ACalls qh 106 [.dp (encGValueNode a0) 0, .int .i64 a1] σ (fun r' σ' => r' = .ds true (qg encGValueValue r) (qc r) false ∧ σ' = σ) :=
 (yk.ok a0 a1 r h).c σ
def xi (a0 : GValueValue) : Int × Bool :=
 (match a0 with | .nil => (0, false) | .num n2 => (n2, true) | .str s2 => (0, false) | .node e2 r2 => (0, false))
theorem xi.ok (a0 : GValueValue) (r : Int × Bool) (h : xi a0 = r) : ACalls qh 130 [.agg (encGValueValue a0)] [] (fun r' _ => r' = .tup [.int .i64 r.1, .bool r.2]) := by
 refine zn (rs := [.tmp 2, .tmp 3]) tok Tryd.func130 rfl Tryd.ntmps130 rfl Tryd.call130 (by simp) ?_
 refine zt [(0, .agg (encGValueValue a0))] ⟨rfl, trivial⟩ ?_
 unfold xi at h
 have f1 := Zb a0
 unfold AV.one at f1
 refine rg tok [1] fun K hK => ?_
 simp only [go_sem, qb, qa, reduceCtorEq, encGValueValue, f1]
 apply hK
 rcases a0 with _ | n2 | s2 | ⟨e2, r2⟩
 · dsimp only at h
   try simp only [vaC]
   refine rg tok [4, 5] fun K hK => ?_
   simp only [go_sem, qb, qa, qd, xu, xy, TypeDesc.isIface]
   apply hK
   refine rg tok [2, 3] fun K hK => ?_
   simp only [go_sem, qb, qa]
   apply hK
   refine zj ?_
   obtain rfl := h
   exact yr
 · dsimp only at h
   try simp only [vaB]
   refine rg tok [4, 5] fun K hK => ?_
   simp only [go_sem, qb, qa, qd, xu, xy, TypeDesc.isIface]
   apply hK
   refine rg tok [2, 3] fun K hK => ?_
   simp only [go_sem, qb, qa]
   apply hK
   refine zj ?_
   obtain rfl := h
   exact yr
 · dsimp only at h
   try simp only [vaA]
   refine rg tok [4, 5] fun K hK => ?_
   simp only [go_sem, qb, qa, qd, xu, xy, TypeDesc.isIface]
   apply hK
   refine rg tok [2, 3] fun K hK => ?_
   simp only [go_sem, qb, qa]
   apply hK
   refine zj ?_
   obtain rfl := h
   exact yr
 dsimp only at h
 try simp only [YQ]
 refine rg tok [4, 5] fun K hK => ?_
 simp only [go_sem, qb, qa, qd, xu, xy, TypeDesc.isIface]
 apply hK
 refine rg tok [2, 3] fun K hK => ?_
 simp only [go_sem, qb, qa]
 apply hK
 refine zj ?_
 obtain rfl := h
 exact yr
theorem xi.ev (a0 : GValueValue) (r : Int × Bool) (h : xi a0 = r) (σ : Store) : ACalls qh 130 [.agg (encGValueValue a0)] σ (fun r' σ' => r' = .tup [.int .i64 r.1, .bool r.2] ∧ σ' = σ) :=
 (xi.ok a0 r h).c σ
def xh (a0 : GValueValue) : List UInt8 × Bool :=
 (match a0 with | .nil => ([], false) | .num n2 => ([], false) | .str s2 => (s2, true) | .node e2 r2 => ([], false))
theorem xh.ok (a0 : GValueValue) (r : List UInt8 × Bool) (h : xh a0 = r) : ACalls qh 131 [.agg (encGValueValue a0)] [] (fun r' _ => r' = .tup [.str r.1, .bool r.2]) := by
 refine zn (rs := [.tmp 2, .tmp 3]) tok Tryd.func131 rfl Tryd.ntmps131 rfl Tryd.call131 (by simp) ?_
 refine zt [(0, .agg (encGValueValue a0))] ⟨rfl, trivial⟩ ?_
 unfold xh at h
 have f1 := Zb a0
 unfold AV.one at f1
 refine rg tok [1] fun K hK => ?_
 simp only [go_sem, qb, qa, reduceCtorEq, encGValueValue, f1]
 apply hK
 rcases a0 with _ | n2 | s2 | ⟨e2, r2⟩
 · dsimp only at h
   try simp only [vaC]
   refine rg tok [4, 5] fun K hK => ?_
   simp only [go_sem, qb, qa, qd, xu, xy, TypeDesc.isIface]
   apply hK
   refine rg tok [2, 3] fun K hK => ?_
   simp only [go_sem, qb, qa]
   apply hK
   refine zj ?_
   obtain rfl := h
   exact yr
 · dsimp only at h
   try simp only [vaB]
   refine rg tok [4, 5] fun K hK => ?_
   simp only [go_sem, qb, qa, qd, xu, xy, TypeDesc.isIface]
   apply hK
   refine rg tok [2, 3] fun K hK => ?_
   simp only [go_sem, qb, qa]
   apply hK
   refine zj ?_
   obtain rfl := h
   exact yr
 · dsimp only at h
   try simp only [vaA]
   refine rg tok [4, 5] fun K hK => ?_
   simp only [go_sem, qb, qa, qd, xu, xy, TypeDesc.isIface]
   apply hK
   refine rg tok [2, 3] fun K hK => ?_
   simp only [go_sem, qb, qa]
   apply hK
   refine zj ?_
   obtain rfl := h
   exact yr
 dsimp only at h
 try simp only [YQ]
 refine rg tok [4, 5] fun K hK => ?_
 simp only [go_sem, qb, qa, qd, xu, xy, TypeDesc.isIface]
 apply hK
 refine rg tok [2, 3] fun K hK => ?_
 simp only [go_sem, qb, qa]
 apply hK
 refine zj ?_
 obtain rfl := h
 exact yr
theorem xh.ev (a0 : GValueValue) (r : List UInt8 × Bool) (h : xh a0 = r) (σ : Store) : ACalls qh 131 [.agg (encGValueValue a0)] σ (fun r' σ' => r' = .tup [.str r.1, .bool r.2] ∧ σ' = σ) :=
 (xh.ok a0 r h).c σ
def xA (a0 : GValueValue) : Option GValueValue :=
 bnd (xi a0) fun r3 => (if r3.2 = true then some (GValueValue.num r3.1) else bnd (xh a0) fun r6 => (if r6.2 = true then some (GValueValue.str r6.1) else (yu a0).bind fun r8 => some (GValueValue.node r8.fentries r8.frest)))
theorem xA.ok (a0 : GValueValue) (r : GValueValue) (h : xA a0 = some r) : ACalls qh 126 [.agg (encGValueValue a0)] [] (fun r' _ => r' = anyV r) := by
 refine zn (rs := [.tmp 2]) tok Tryd.func126 rfl Tryd.ntmps126 rfl Tryd.call126 (by simp) ?_
 refine zt [(0, .agg (encGValueValue a0))] ⟨rfl, trivial⟩ ?_
 unfold xA at h
 have f1 := Zb a0
 unfold AV.one at f1
 refine rg tok [1] fun K hK => ?_
 simp only [go_sem, qb, qa, reduceCtorEq, encGValueValue, f1]
 apply hK
 refine zd fun Z2 hZ2 => ?_
 refine rc [1, 3, 4] fun K hK => ?_
 obtain ⟨r3, hr3, h⟩ := zS h
 refine zb tok 1 ?_
 simp only [go_sem, qb, qe]
 refine zi rfl rfl rfl (xi.ev a0 r3 hr3 _) ?_
 rintro _ _ ⟨rfl, rfl⟩
 refine zb tok 5 ?_
 simp only [go_sem, qb, qa, qd]
 refine za ?_
 simp only [ze, upd, qa, reduceIte, zl, zq]
 apply hK
 refine rg tok [1, 3, 12] fun K hK => ?_
 simp only [go_sem, qb, qa]
 apply hK
 refine zv (b := r3.2) rfl (fun hc4 => ?_) (fun hc4 => ?_)
 · rw [if_pos hc4] at h
   refine rg tok [2] fun K hK => ?_
   simp only [go_sem, qb, qa]
   apply hK
   refine zj ?_
   obtain rfl := Option.some.inj h
   exact yr
 rw [xD hc4] at h
 refine zh ?_
 apply hZ2
 refine zd fun Z5 hZ5 => ?_
 refine rc [1, 5, 6] fun K hK => ?_
 obtain ⟨r6, hr6, h⟩ := zS h
 refine zb tok 1 ?_
 simp only [go_sem, qb, qe, qa]
 refine zi rfl rfl rfl (xh.ev a0 r6 hr6 _) ?_
 rintro _ _ ⟨rfl, rfl⟩
 refine zb tok 5 ?_
 simp only [go_sem, qb, qa, qd]
 refine za ?_
 simp only [ze, upd, qa, reduceIte, zl, zq]
 apply hK
 refine rg tok [1, 5, 20] fun K hK => ?_
 simp only [go_sem, qb, qa]
 apply hK
 refine zv (b := r6.2) rfl (fun hc7 => ?_) (fun hc7 => ?_)
 · rw [if_pos hc7] at h
   refine rg tok [2] fun K hK => ?_
   simp only [go_sem, qb, qa]
   apply hK
   refine zj ?_
   obtain rfl := Option.some.inj h
   exact yr
 rw [xD hc7] at h
 refine zh ?_
 apply hZ5
 refine rc [2] fun K hK => ?_
 obtain ⟨r8, hr8, h⟩ := bind_some h
 refine zb tok 1 ?_
 simp only [go_sem, qb, qe, qa]
 refine zi rfl rfl rfl (yu.ev a0 r8 hr8 _) ?_
 rintro _ _ ⟨rfl, rfl⟩
 refine zb tok 2 ?_
 simp only [go_sem, qb, qa]
 refine za ?_
 simp only [ze, upd, qa, reduceIte, zl, zq]
 apply hK
 refine zj ?_
 obtain rfl := Option.some.inj h
 exact yr
theorem xA.ev (a0 : GValueValue) (r : GValueValue) (h : xA a0 = some r) (σ : Store) : ACalls qh 126 [.agg (encGValueValue a0)] σ (fun r' σ' => r' = anyV r ∧ σ' = σ) :=
 (xA.ok a0 r h).c σ
def yV.l9 : Nat → List UInt8 → Int → Option (List UInt8)
 | 0, _, _ => none
 | k9 + 1, l3, x5 => (if 128 ≤ x5 then (YN (qc l3 + 1) 1).bind fun _u14 => ((yV.l9 k9) (l3 ++ [q7 (qB (IntKind.u8.wrap ((uh (qv 8 (IntKind.u8.wrap x5) ||| qv 8 128) : Nat) : Int)))]) (Int.fdiv x5 (2 ^ (min (qB 7) 64)))) else (YN (qc l3 + 1) 1).bind fun _u18 => some (l3 ++ [q7 (qB (IntKind.u8.wrap x5))]))
def yV (a0 : List UInt8) (a1 : Int) : Option (List UInt8) :=
 (if 128 ≤ a1 then (YN (qc a0 + 1) 1).bind fun _u24 => (yV.l9 rounds (a0 ++ [q7 (qB (IntKind.u8.wrap ((uh (qv 8 (IntKind.u8.wrap a1) ||| qv 8 128) : Nat) : Int)))]) (Int.fdiv a1 (2 ^ (min (qB 7) 64)))) else (YN (qc a0 + 1) 1).bind fun _u28 => some (a0 ++ [q7 (qB (IntKind.u8.wrap a1))]))
theorem yV.own (a0 : List UInt8) (a1 : Int) (r : List UInt8) (h : yV a0 a1 = some r) : ACalls qh 38 [.ds true (qg encB a0) (qc a0) false, .int .u64 a1] [] (fun r' σ' => r' = .os true 1 0 0 0 (qc r) false ∧ σ' = [.cells 0 (qg encB r)]) := by
 refine ACalls.own0 (by simp only [push_cast]) ?_
 refine Y6 (rs := [.tmp 4]) tok Tryd.func38 rfl Tryd.ntmps38 rfl Tryd.call38 (by simp) ?_
 refine zt [(0, .ds true (qg encB a0) (qc a0) false), (1, .int .u64 a1)] ⟨rfl, rfl, trivial⟩ ?_
 unfold yV at h
 refine rg tok [0, 1] fun K hK => ?_
 simp only [go_sem, qb, qa, reduceCtorEq]
 apply hK
 have f1 := E35.sl_tight a0 .i64 .i64
 refine rg tok [0, 1] fun K hK => ?_
 simp only [go_sem, qb, qa, reduceCtorEq, f1]
 apply hK
 refine zd fun Z2 hZ2 => ?_
 refine zk ?_
 refine awp_loopS1 (fun m L τ => ∃ (k9 : Nat) (l3 : List UInt8) (x5 : Int) (v4 : Nat), m = 0 + k9 ∧ L = ([(0, .os true 1 0 v4 0 (qc l3) false), (1, .int .u64 x5)] : List (Nat × AV)) ∧ τ = ([.cells v4 (qg encB l3)] : Store) ∧ yV.l9 k9 l3 x5 = some r) (rounds + 1) ?_ ?_
 · refine zd fun Z20 hZ20 => ?_
   refine rg tok [0, 1, 12] fun K hK => ?_
   simp only [go_sem, qb, qa, reduceCtorEq]
   apply hK
   refine zI rfl (fun hc21 => ?_) (fun hc21 => ?_)
   · rw [if_pos hc21] at h
     have t22 := eq_true hc21
     refine zh ?_
     apply hZ20
     refine zk ?_
     have f23 := xv (T := tab) (src := 85) (dst := 5) rfl rfl rfl
     obtain ⟨_u24, hu24, h⟩ := bind_some h
     have gu24 := yy hu24
     have f25 := app_tight E35.len a0 (m := 1) (by decide)
     refine rg tok [0, 1] fun K hK => ?_
     simp only [go_sem, qb, qe, qa, qw, reduceCtorEq, zR, z8, ug, qY, true_and, ul, yn, yq, t22, f23, gu24, f25, yS, uf, qZ, AV.one, qS, qA, qk, qn, qt, qC]
     apply hK
     refine yc (L := [(0, .os true 1 1 0 0 (qc (a0 ++ [q7 (qB (IntKind.u8.wrap ((uh (qv 8 (IntKind.u8.wrap a1) ||| qv 8 128) : Nat) : Int)))])) false), (1, .int .u64 a1)]) (τ := [.cells 0 [.int .u8 (IntKind.u8.wrap ((uh (qv 8 (IntKind.u8.wrap a1) ||| qv 8 128) : Nat) : Int))], .cells 0 (qg encB (a0 ++ [q7 (qB (IntKind.u8.wrap ((uh (qv 8 (IntKind.u8.wrap a1) ||| qv 8 128) : Nat) : Int)))]))]) (.same (by first | exact ⟨rfl, rfl, trivial⟩ | rfl | (simp only [go_sem, reduceCtorEq, Fits, qi, qk, qn, qt, and_self] <;> rfl)) (by first | exact ⟨rfl, rfl, trivial⟩ | rfl | (simp only [go_sem, encB, q1, qP, un, qx, u8_wrap] <;> rfl))) ?_
     refine rgE tok [0, 1] fun K hK => ?_
     simp only [go_sem, qb, qa, reduceCtorEq, ZO, Int.reduceLT]
     apply hK
     exact ⟨_, _, _, (Nat.lt_succ_of_le (Nat.le_of_eq (qt rounds))), ⟨rounds, a0 ++ [q7 (qB (IntKind.u8.wrap ((uh (qv 8 (IntKind.u8.wrap a1) ||| qv 8 128) : Nat) : Int)))], Int.fdiv a1 (2 ^ (min (qB 7) 64)), 0, rfl, rfl, rfl, h⟩, (.t [1] false)⟩
   rw [if_neg hc21] at h
   have t26 := eq_false hc21
   refine zM ?_
   apply hZ2
   have f27 := xv (T := tab) (src := 85) (dst := 5) rfl rfl rfl
   obtain ⟨_u28, hu28, h⟩ := bind_some h
   have gu28 := yy hu28
   have f29 := app_tight E35.len a0 (m := 1) (by decide)
   refine rg tok [4] fun K hK => ?_
   simp only [go_sem, qb, qe, qa, qw, reduceCtorEq, zR, z8, ug, qY, true_and, ul, yn, yq, t26, f27, gu28, f29, yS, uf, qZ, AV.one, qS, qA, qk, qn, qt, qC]
   apply hK
   refine yc (L := [(4, .os true 1 1 0 0 (qc (a0 ++ [q7 (qB (IntKind.u8.wrap a1))])) false)]) (τ := [.cells 0 [.int .u8 (IntKind.u8.wrap a1)], .cells 0 (qg encB (a0 ++ [q7 (qB (IntKind.u8.wrap a1))]))]) (.same (by first | exact ⟨rfl, trivial⟩ | rfl | (simp only [go_sem, Fits, qi, qk, qn, qt, and_self] <;> rfl)) (by first | exact ⟨rfl, trivial⟩ | rfl | (simp only [go_sem, encB, q1, qP, un, qx, u8_wrap] <;> rfl))) ?_
   refine zj ?_
   obtain rfl := Option.some.inj h
   simp only [ZF, xd, xl, xY, exists_eq_left', go_sem, qd]
   refine ⟨1, 0, by simp, ?_, ?_⟩
   · first | rfl | (simp only [go_sem, qb, qe, qa, qd, qw, qL, reduceIte, reduceCtorEq, push_cast, if_true, qJ, qt, qM, qy, qR, qW, ub, q2, ud, qX, qI, yj] <;> rfl)
   first | rfl | (simp only [go_sem, push_cast, qy, yj] <;> rfl)
 clear h
 rintro m L τ ⟨k9, l3, x5, v4, rfl, rfl, rfl, h⟩
 rcases k9 with _ | k9
 · cases h
 simp only [yV.l9] at h
 refine zd fun Z10 hZ10 => ?_
 refine rg tok [0, 1, 12] fun K hK => ?_
 simp only [go_sem, qb, qa, reduceCtorEq]
 apply hK
 refine zI rfl (fun hc11 => ?_) (fun hc11 => ?_)
 · rw [if_pos hc11] at h
   have t12 := eq_true hc11
   refine zh ?_
   apply hZ10
   refine zk ?_
   have f13 := xv (T := tab) (src := 85) (dst := 5) rfl rfl rfl
   obtain ⟨_u14, hu14, h⟩ := bind_some h
   have gu14 := yy hu14
   have f15 := (zK E35.len l3)
   refine rg tok [0, 1] fun K hK => ?_
   simp only [go_sem, qb, qe, qa, qw, reduceCtorEq, zR, z8, ug, qY, true_and, ul, yn, zY, yq, t12, f13, gu14, f15, yS, uf, qZ, AV.one, qS, qA, qk, qn, qt, qC]
   apply hK
   refine yc (L := [(0, .os true 1 0 (v4 + 1) 0 (qc (l3 ++ [q7 (qB (IntKind.u8.wrap ((uh (qv 8 (IntKind.u8.wrap x5) ||| qv 8 128) : Nat) : Int)))])) false), (1, .int .u64 x5)]) (τ := [.cells (v4 + 1) (qg encB (l3 ++ [q7 (qB (IntKind.u8.wrap ((uh (qv 8 (IntKind.u8.wrap x5) ||| qv 8 128) : Nat) : Int)))])), .cells 0 [.int .u8 (IntKind.u8.wrap ((uh (qv 8 (IntKind.u8.wrap x5) ||| qv 8 128) : Nat) : Int))]]) (.same (by first | exact ⟨rfl, rfl, trivial⟩ | rfl | (simp only [go_sem, reduceCtorEq, Fits, qi, qk, qn, qt, and_self] <;> rfl)) (by first | exact ⟨rfl, rfl, trivial⟩ | rfl | (simp only [go_sem, encB, q1, qP, un, qx, u8_wrap] <;> rfl))) ?_
   refine rgE tok [0, 1] fun K hK => ?_
   simp only [go_sem, qb, qa, reduceCtorEq, ZO, Int.reduceLT]
   apply hK
   exact ⟨_, _, _, qu (0 + k9), ⟨k9, l3 ++ [q7 (qB (IntKind.u8.wrap ((uh (qv 8 (IntKind.u8.wrap x5) ||| qv 8 128) : Nat) : Int)))], Int.fdiv x5 (2 ^ (min (qB 7) 64)), v4 + 1, rfl, rfl, rfl, h⟩, (.t [0] false)⟩
 rw [if_neg hc11] at h
 have t16 := eq_false hc11
 refine zM ?_
 apply hZ2
 have f17 := xv (T := tab) (src := 85) (dst := 5) rfl rfl rfl
 obtain ⟨_u18, hu18, h⟩ := bind_some h
 have gu18 := yy hu18
 have f19 := (zK E35.len l3)
 refine rg tok [4] fun K hK => ?_
 simp only [go_sem, qb, qe, qa, qw, reduceCtorEq, zR, z8, ug, qY, true_and, ul, yn, zY, yq, t16, f17, gu18, f19, yS, uf, qZ, AV.one, qS, qA, qk, qn, qt, qC]
 apply hK
 refine yc (L := [(4, .os true 1 0 (v4 + 1) 0 (qc (l3 ++ [q7 (qB (IntKind.u8.wrap x5))])) false)]) (τ := [.cells (v4 + 1) (qg encB (l3 ++ [q7 (qB (IntKind.u8.wrap x5))])), .cells 0 [.int .u8 (IntKind.u8.wrap x5)]]) (.same (by first | exact ⟨rfl, trivial⟩ | rfl | (simp only [go_sem, Fits, qi, qk, qn, qt, and_self] <;> rfl)) (by first | exact ⟨rfl, trivial⟩ | rfl | (simp only [go_sem, encB, q1, qP, un, qx, u8_wrap] <;> rfl))) ?_
 refine zj ?_
 obtain rfl := Option.some.inj h
 simp only [ZF, xd, xl, xY, exists_eq_left', go_sem, qd]
 refine ⟨0, v4 + 1, by simp, ?_, ?_⟩
 · first | rfl | (simp only [go_sem, qb, qe, qa, qd, qw, qL, reduceIte, reduceCtorEq, push_cast, if_true, qJ, qt, qM, qy, qR, qW, ub, q2, ud, qX, qI, yj] <;> rfl)
 first | rfl | (simp only [go_sem, push_cast, qy, yj] <;> rfl)
theorem yV.ok (a0 : List UInt8) (a1 : Int) (r : List UInt8) (h : yV a0 a1 = some r) : ACalls qh 38 [.ds true (qg encB a0) (qc a0) false, .int .u64 a1] [] (fun r' _ => r' = .ds true (qg encB r) (qc r) false) :=
 (yV.own a0 a1 r h).ownData (zK E35.len r) (by simp only [push_cast])
theorem yV.ev (a0 : List UInt8) (a1 : Int) (r : List UInt8) (h : yV a0 a1 = some r) (σ : Store) : ACalls qh 38 [.ds true (qg encB a0) (qc a0) false, .int .u64 a1] σ (fun r' σ' => r' = .ds true (qg encB r) (qc r) false ∧ σ' = σ) :=
 (yV.ok a0 a1 r h).c σ
def Zg (a0 : Int) : Int :=
 IntKind.u64.wrap ((uh (qv 64 (IntKind.u64.wrap ((IntKind.u64.wrap a0) * 2 ^ (min (qB 1) 64))) ^^^ qv 64 (IntKind.u64.wrap (Int.fdiv a0 (2 ^ (min (qB 63) 64))))) : Nat) : Int)
theorem Zg.ok (a0 : Int) (r : Int) (h : Zg a0 = r) : ACalls qh 39 [.int .i64 a0] [] (fun r' _ => r' = .int .u64 r) := by
 refine zn (rs := [.tmp 2]) tok Tryd.func39 rfl Tryd.ntmps39 rfl Tryd.call39 (by simp) ?_
 refine zt [(0, .int .i64 a0)] ⟨rfl, trivial⟩ ?_
 unfold Zg at h
 refine rg tok [0] fun K hK => ?_
 simp only [go_sem, qb, reduceCtorEq]
 apply hK
 have f1 := xv (T := tab) (src := 3) (dst := 85) rfl rfl rfl
 have f2 := xv (T := tab) (src := 3) (dst := 85) rfl rfl rfl
 refine rg tok [2] fun K hK => ?_
 simp only [go_sem, qb, qa, reduceCtorEq, f1, ZO, Int.reduceLT]
 apply hK
 refine zj ?_
 obtain rfl := h
 exact yr
theorem Zg.ev (a0 : Int) (r : Int) (h : Zg a0 = r) (σ : Store) : ACalls qh 39 [.int .i64 a0] σ (fun r' σ' => r' = .int .u64 r ∧ σ' = σ) :=
 (Zg.ok a0 r h).c σ
def Zf (a0 : List UInt8) (a1 : GRaw) : Option (List UInt8 × Bool) :=
 bnd (yw a1) fun r2 => (if (!r2) = true then some (a0, false) else (yV a0 (IntKind.u64.wrap (IntKind.i64.wrap ((IntKind.i64.wrap (2 * a1.fTag)) + a1.fWire)))).bind fun r5 => (if a1.fWire = 0 then bnd (Zg a1.fN) fun r9 => (yV r5 r9).bind fun r10 => some (r10, true) else (yV r5 (IntKind.u64.wrap (qc a1.fB : Int))).bind fun r13 => (YN (qc r13 + qc a1.fB) 1).bind fun _u14 => some (r13 ++ a1.fB, true)))
theorem Zf.ok (a0 : List UInt8) (a1 : GRaw) (r : List UInt8 × Bool) (h : Zf a0 a1 = some r) : ACalls qh 19 [.ds true (qg encB a0) (qc a0) false, .agg (encGRaw a1)] [] (fun r' _ => r' = .tup [.ds true (qg encB r.1) (qc r.1) false, .bool r.2]) := by
 refine zn (rs := [.tmp 4, .tmp 5]) tok Tryd.func19 rfl Tryd.ntmps19 rfl Tryd.call19 (by simp) ?_
 refine zt [(0, .ds true (qg encB a0) (qc a0) false), (1, .agg (encGRaw a1))] ⟨rfl, rfl, trivial⟩ ?_
 unfold Zf at h
 refine rg tok [0, 3] fun K hK => ?_
 simp only [go_sem, qb, qa, qd, reduceCtorEq, encGRaw]
 apply hK
 refine zd fun Z1 hZ1 => ?_
 refine rc [0, 3, 9] fun K hK => ?_
 obtain ⟨r2, hr2, h⟩ := zS h
 refine zb tok 1 ?_
 simp only [go_sem, qb, qe, qd, reduceCtorEq]
 refine zi rfl rfl rfl (yw.ev a1 r2 hr2 _) ?_
 rintro _ _ ⟨rfl, rfl⟩
 refine zb tok 1 ?_
 simp only [go_sem, qb, qa, reduceCtorEq]
 refine za ?_
 simp only [ze, upd, qa, reduceIte, zl, zq]
 apply hK
 refine zv (b := (!r2)) rfl (fun hc3 => ?_) (fun hc3 => ?_)
 · rw [if_pos hc3] at h
   refine rg tok [4, 5] fun K hK => ?_
   simp only [go_sem, qb, qa, reduceCtorEq]
   apply hK
   refine zj ?_
   obtain rfl := Option.some.inj h
   exact yr
 rw [xD hc3] at h
 refine zh ?_
 apply hZ1
 refine rc [3, 6] fun K hK => ?_
 have f4 := xv (T := tab) (src := 3) (dst := 85) rfl rfl rfl
 obtain ⟨r5, hr5, h⟩ := bind_some h
 refine zb tok 8 ?_
 simp only [go_sem, qb, qa, qd, reduceCtorEq, f4]
 refine zi rfl rfl rfl (yV.ev a0 (IntKind.u64.wrap (IntKind.i64.wrap ((IntKind.i64.wrap (2 * a1.fTag)) + a1.fWire))) r5 hr5 _) ?_
 rintro _ _ ⟨rfl, rfl⟩
 refine zb tok 1 ?_
 simp only [go_sem, qb, qa, reduceCtorEq]
 refine za ?_
 simp only [ze, upd, qa, reduceIte, zl, zq]
 apply hK
 refine zd fun Z6 hZ6 => ?_
 refine rg tok [3, 6, 22] fun K hK => ?_
 simp only [go_sem, qb, qa, qd]
 apply hK
 refine zI rfl (fun hc7 => ?_) (fun hc7 => ?_)
 · rw [if_pos hc7] at h
   have t8 := eq_true hc7
   refine rc [4, 5] fun K hK => ?_
   obtain ⟨r9, hr9, h⟩ := zS h
   refine zb tok 3 ?_
   simp only [go_sem, qb, qa, qd, t8]
   refine zi rfl rfl rfl (Zg.ev a1.fN r9 hr9 _) ?_
   rintro _ _ ⟨rfl, rfl⟩
   obtain ⟨r10, hr10, h⟩ := bind_some h
   refine zi rfl rfl rfl (yV.ev r5 r9 r10 hr10 _) ?_
   rintro _ _ ⟨rfl, rfl⟩
   refine zb tok 2 ?_
   simp only [go_sem, qb, qa]
   refine za ?_
   simp only [ze, upd, qa, reduceIte, zl, zq]
   apply hK
   refine zj ?_
   obtain rfl := Option.some.inj h
   exact yr
 rw [if_neg hc7] at h
 have t11 := eq_false hc7
 refine zh ?_
 apply hZ6
 have f12 := xv (T := tab) (src := 3) (dst := 85) rfl rfl rfl
 obtain ⟨r13, hr13, h⟩ := bind_some h
 obtain ⟨_u14, hu14, h⟩ := bind_some h
 have gu14 := yy hu14
 have f15 := (zK E35.len r13)
 refine rd [4, 5] fun K hK => ?_
 refine DW.start (T := tab) [.any, .any, .at [], .at [], .at [], .eff, .any, .own 1 [], .eff, .any, .any] [(1, [])] ?_
 refine DW.runN tok 5 ?_
 simp only [go_sem, qb, qa, qd, t11, f12, qk, qn, qt]
 refine DW.callS rfl rfl rfl (@id (ACalls qh 38 [.ds true (qg encB r5) (qc r5) false, .int .u64 (IntKind.u64.wrap (qc a1.fB : Int))] [.cells 0 [.int .i64 a1.fTag, .int .i64 a1.fWire, .int .i64 a1.fN, .str a1.fB]] (fun r' σ' => r' = .os true 1 1 0 0 (qc r13) false ∧ σ' = [.cells 0 [.int .i64 a1.fTag, .int .i64 a1.fWire, .int .i64 a1.fN, .str a1.fB], .cells 0 (qg encB r13)])) ((yV.own r5 (IntKind.u64.wrap (qc a1.fB : Int)) r13 hr13).ownAt0 (by simp only [push_cast]) (by simp only [push_cast]) _)) (vbs (by simp only [go_sem, qe])) ?_
 refine DW.runN tok 5 ?_
 simp only [go_sem, qb, qe, qa, qd, yn, zY, yq, true_and, gu14, f15, srcCells_s, Xn, ZG, qk, qn, qt]
 refine DW.fin tok (by decide +kernel) rfl ?_
 simp only [ze, upd, qa, reduceIte, zl, zq]
 apply hK
 refine yc (L := [(4, .os true 1 1 (0 + 1) 0 (qc (r13 ++ a1.fB)) false), (5, .bool true)]) (τ := [.cells 0 [.int .i64 a1.fTag, .int .i64 a1.fWire, .int .i64 a1.fN, .str a1.fB], .cells (0 + 1) (qg encB (r13 ++ a1.fB))]) .s ?_
 refine zj ?_
 obtain rfl := Option.some.inj h
 exact yr
theorem Zf.ev (a0 : List UInt8) (a1 : GRaw) (r : List UInt8 × Bool) (h : Zf a0 a1 = some r) (σ : Store) : ACalls qh 19 [.ds true (qg encB a0) (qc a0) false, .agg (encGRaw a1)] σ (fun r' σ' => r' = .tup [.ds true (qg encB r.1) (qc r.1) false, .bool r.2] ∧ σ' = σ) :=
 (Zf.ok a0 a1 r h).c σ
def zZ.l11 : List GRaw → Int → List UInt8 → Option (List UInt8 × Int)
 | [], x8, x7 => some (x7, 0)
 | y11 :: q11, x8, x7 => (Zf x7 y11).bind fun r17 => (if 4096 < (qc r17.1 : Int) then some (([] : List UInt8), 4) else ((zZ.l11 q11) (x8 + 1) r17.1))
def zZ.l4 (a0 : List GRaw) : List GRaw → Int → Option (List UInt8 × Int)
 | [], x2 => (zZ.l11 a0 0 ([] : List UInt8))
 | y4 :: q4, x2 => bnd (yw y4) fun r25 => (if (!r25) = true then some (([] : List UInt8), 1) else ((zZ.l4 a0 q4) (x2 + 1)))
def zZ (a0 : List GRaw) : Option (List UInt8 × Int) :=
 (zZ.l4 a0 a0 0)
theorem zZ.ok (a0 : List GRaw) (r : List UInt8 × Int) (h : zZ a0 = some r) : ACalls qh 11 [.ds true (qg encGRaw a0) (qc a0) false] [] (fun r' _ => r' = .tup [.ds true (qg encB r.1) (qc r.1) false, .int .i64 r.2]) := by
 refine zn (rs := [.tmp 2, .tmp 3]) tok Tryd.func11 rfl Tryd.ntmps11 rfl Tryd.call11 (by simp) ?_
 refine zt [(0, .ds true (qg encGRaw a0) (qc a0) false)] ⟨rfl, trivial⟩ ?_
 unfold zZ at h
 refine rg tok [0] fun K hK => ?_
 simp only [go_sem, qb, reduceCtorEq]
 apply hK
 refine zd fun Z1 hZ1 => ?_
 refine rg tok [0, 9, 10, 11] fun K hK => ?_
 simp only [go_sem, qb, qa, reduceCtorEq]
 apply hK
 refine zk ?_
 refine yW 0 fun hb4 => ?_
 replace hb4 : qc a0 ≤ 9223372036854775807 := hb4.1
 refine zF (fun m L τ => ∃ (p4 q4 : List GRaw) (x2 : Int), m = qc q4 ∧ L = ([(0, .ds true (qg encGRaw a0) (qc a0) false), (9, .ds true (qg encGRaw a0) (qc a0) false), (10, .int .i64 (qc a0 : Int)), (11, .int .i64 x2)] : List (Nat × AV)) ∧ τ = ([] : Store) ∧ a0 = p4 ++ q4 ∧ x2 = (qc p4 : Int) ∧ zZ.l4 a0 q4 x2 = some r) _ ⟨[], a0, 0, rfl, rfl, rfl, rfl, rfl, h⟩ .s ?_
 rintro m L τ ⟨p4, q4, x2, rfl, rfl, rfl, hE4, hi4, h⟩
 rcases q4 with _ | ⟨y4, q4⟩
 · have hz4 := yz hE4 hi4
   simp only [zZ.l4] at h
   refine rg tok [0, 9, 10, 11, 12] fun K hK => ?_
   simp only [go_sem, qb, qa, reduceCtorEq, hz4]
   apply hK
   refine zd fun Z5 hZ5 => ?_
   refine zz rfl ?_
   refine zM ?_
   apply hZ1
   refine rg tok [0, 6] fun K hK => ?_
   simp only [go_sem, qb, qa, reduceCtorEq]
   apply hK
   refine zd fun Z6 hZ6 => ?_
   refine rg tok [6, 19, 20, 21] fun K hK => ?_
   simp only [go_sem, qb, qa, reduceCtorEq]
   apply hK
   refine zk ?_
   refine yW 19 fun hb11 => ?_
   replace hb11 : qc a0 ≤ 9223372036854775807 := hb11.1
   refine zF (fun m L τ => ∃ (p11 q11 : List GRaw) (x8 : Int) (x7 : List UInt8), m = qc q11 ∧ L = ([(6, .ds true (qg encB x7) (qc x7) false), (19, .ds true (qg encGRaw a0) (qc a0) false), (20, .int .i64 (qc a0 : Int)), (21, .int .i64 x8)] : List (Nat × AV)) ∧ τ = ([] : Store) ∧ a0 = p11 ++ q11 ∧ x8 = (qc p11 : Int) ∧ zZ.l11 q11 x8 x7 = some r) _ ⟨[], a0, 0, ([] : List UInt8), rfl, rfl, rfl, rfl, rfl, h⟩ (.t [] true) ?_
   rintro m L τ ⟨p11, q11, x8, x7, rfl, rfl, rfl, hE11, hi11, h⟩
   rcases q11 with _ | ⟨y11, q11⟩
   · have hz11 := yz hE11 hi11
     simp only [zZ.l11] at h
     refine rg tok [6, 19, 20, 21, 22] fun K hK => ?_
     simp only [go_sem, qb, qa, hz11]
     apply hK
     refine zd fun Z12 hZ12 => ?_
     refine zz rfl ?_
     refine zM ?_
     apply hZ6
     refine rg tok [2, 3] fun K hK => ?_
     simp only [go_sem, qb, qa]
     apply hK
     refine zj ?_
     obtain rfl := Option.some.inj h
     exact yr
   obtain ⟨hz11, hw11, hx11, hE'11, hi'11⟩ := yg hE11 hi11 hb11
   simp only [zZ.l11] at h
   refine rg tok [6, 19, 20, 21, 22] fun K hK => ?_
   simp only [go_sem, qb, qa, hz11]
   apply hK
   refine zd fun Z13 hZ13 => ?_
   refine zB rfl ?_
   refine zh ?_
   apply hZ13
   refine zd fun Z14 hZ14 => ?_
   refine zk ?_
   have f15 := E22.idxS hx11
   have f16 := E22.loadS rfl rfl hx11
   refine rg tok [6, 8, 19, 20, 21] fun K hK => ?_
   simp only [go_sem, qb, qe, qa, qd, encGRaw, f15, f16]
   apply hK
   refine rc [6, 19, 20, 21] fun K hK => ?_
   obtain ⟨r17, hr17, h⟩ := bind_some h
   refine zb tok 2 ?_
   simp only [go_sem, qb, qe, qa, qd]
   refine zi rfl rfl rfl (Zf.ev x7 y11 r17 hr17 _) ?_
   rintro _ _ ⟨rfl, rfl⟩
   refine zb tok 4 ?_
   simp only [go_sem, qb, qa, qd]
   refine za ?_
   simp only [ze, upd, qa, reduceIte, zl, zq]
   apply hK
   refine rg tok [6, 19, 20, 21, 33] fun K hK => ?_
   simp only [go_sem, qb, qa]
   apply hK
   refine zI rfl (fun hc18 => ?_) (fun hc18 => ?_)
   · rw [if_pos hc18] at h
     have t19 := eq_true hc18
     refine rg tok [2, 3] fun K hK => ?_
     simp only [go_sem, qb, qa, t19]
     apply hK
     refine zj ?_
     obtain rfl := Option.some.inj h
     exact yr
   rw [if_neg hc18] at h
   have t20 := eq_false hc18
   refine zh ?_
   apply hZ14
   refine rgE tok [6, 19, 20, 21] fun K hK => ?_
   simp only [go_sem, qb, qa, hw11, t20]
   apply hK
   exact ⟨_, _, _, qu q11.length, ⟨p11 ++ [y11], q11, x8 + 1, r17.1, rfl, rfl, rfl, hE'11, hi'11, h⟩, (.t [] false)⟩
 obtain ⟨hz4, hw4, hx4, hE'4, hi'4⟩ := yg hE4 hi4 hb4
 simp only [zZ.l4] at h
 refine rg tok [0, 9, 10, 11, 12] fun K hK => ?_
 simp only [go_sem, qb, qa, reduceCtorEq, hz4]
 apply hK
 refine zd fun Z21 hZ21 => ?_
 refine zB rfl ?_
 refine zh ?_
 apply hZ21
 refine zd fun Z22 hZ22 => ?_
 refine zk ?_
 have f23 := E22.idxS hx4
 have f24 := E22.loadS rfl rfl hx4
 refine rg tok [0, 5, 9, 10, 11] fun K hK => ?_
 simp only [go_sem, qb, qe, qa, qd, reduceCtorEq, encGRaw, f23, f24]
 apply hK
 refine rc [0, 9, 10, 11, 17] fun K hK => ?_
 obtain ⟨r25, hr25, h⟩ := zS h
 refine zb tok 1 ?_
 simp only [go_sem, qb, qe, qa, qd, reduceCtorEq]
 refine zi rfl rfl rfl (yw.ev y4 r25 hr25 _) ?_
 rintro _ _ ⟨rfl, rfl⟩
 refine zb tok 1 ?_
 simp only [go_sem, qb, qa, reduceCtorEq]
 refine za ?_
 simp only [ze, upd, qa, reduceIte, zl, zq]
 apply hK
 refine zv (b := (!r25)) rfl (fun hc26 => ?_) (fun hc26 => ?_)
 · rw [if_pos hc26] at h
   refine rg tok [2, 3] fun K hK => ?_
   simp only [go_sem, qb, qa, reduceCtorEq]
   apply hK
   refine zj ?_
   obtain rfl := Option.some.inj h
   exact yr
 rw [xD hc26] at h
 refine zh ?_
 apply hZ22
 refine rgE tok [0, 9, 10, 11] fun K hK => ?_
 simp only [go_sem, qb, qa, reduceCtorEq, hw4]
 apply hK
 exact ⟨_, _, _, qu q4.length, ⟨p4 ++ [y4], q4, x2 + 1, rfl, rfl, rfl, hE'4, hi'4, h⟩, (.t [] false)⟩
theorem zZ.ev (a0 : List GRaw) (r : List UInt8 × Int) (h : zZ a0 = some r) (σ : Store) : ACalls qh 11 [.ds true (qg encGRaw a0) (qc a0) false] σ (fun r' σ' => r' = .tup [.ds true (qg encB r.1) (qc r.1) false, .int .i64 r.2] ∧ σ' = σ) :=
 (zZ.ok a0 r h).c σ
def yR.body (yC : GValueNode → Option (List UInt8 × Int)) (z6 : Int → GValueValue → Option (GRaw × Int)) (yI : GValueNode → Option (List GRaw × Int)) (a0 : GValueNode) : Option (List UInt8 × Int) :=
 (yI a0).bind fun r1 => (if r1.2 = 0 then (zZ r1.1).bind fun r6 => some (r6.1, r6.2) else some (([] : List UInt8), r1.2))
theorem yR.step (yC : GValueNode → Option (List UInt8 × Int)) (z6 : Int → GValueValue → Option (GRaw × Int)) (yI : GValueNode → Option (List GRaw × Int)) (wC : ∀ (a0 : GValueNode) (r : List UInt8 × Int), yC a0 = some r → ACalls qh 127 [.dp (encGValueNode a0) 0] [] (fun r' _ => r' = .tup [.ds true (qg encB r.1) (qc r.1) false, .int .i64 r.2])) (wW : ∀ (a0 : Int) (a1 : GValueValue) (r : GRaw × Int), z6 a0 a1 = some r → ACalls qh 107 [.int .i64 a0, .agg (encGValueValue a1)] [] (fun r' _ => r' = .tup [.agg (encGRaw r.1), .int .i64 r.2])) (wJ : ∀ (a0 : GValueNode) (r : List GRaw × Int), yI a0 = some r → ACalls qh 75 [.dp (encGValueNode a0) 0] [] (fun r' _ => r' = .tup [.ds true (qg encGRaw r.1) (qc r.1) false, .int .i64 r.2])) (a0 : GValueNode) (r : List UInt8 × Int) (h : yR.body yC z6 yI a0 = some r) : ACalls qh 127 [.dp (encGValueNode a0) 0] [] (fun r' _ => r' = .tup [.ds true (qg encB r.1) (qc r.1) false, .int .i64 r.2]) := by
 have ev_encode_bytes := fun a0 r h σ => (wC a0 r h).c σ
 have ev_encode_raw := fun a0 a1 r h σ => (wW a0 a1 r h).c σ
 have ev_encode_raws := fun a0 r h σ => (wJ a0 r h).c σ
 refine zn (rs := [.tmp 2, .tmp 3]) tok Tryd.func127 rfl Tryd.ntmps127 rfl Tryd.call127 (by simp) ?_
 refine zt [(0, .dp (encGValueNode a0) 0)] ⟨rfl, trivial⟩ ?_
 unfold yR.body at h
 refine rg tok [0] fun K hK => ?_
 simp only [go_sem, qb, reduceCtorEq]
 apply hK
 refine rc [4, 5] fun K hK => ?_
 obtain ⟨r1, hr1, h⟩ := bind_some h
 refine zb tok 1 ?_
 simp only [go_sem, qb]
 refine zi rfl rfl rfl (ev_encode_raws a0 r1 hr1 _) ?_
 rintro _ _ ⟨rfl, rfl⟩
 refine zb tok 5 ?_
 simp only [go_sem, qb, qa, qd, reduceCtorEq]
 refine za ?_
 simp only [ze, upd, qa, reduceIte, zl, zq]
 apply hK
 refine zd fun Z2 hZ2 => ?_
 refine rg tok [4, 5, 12] fun K hK => ?_
 simp only [go_sem, qb, qa]
 apply hK
 refine zI rfl (fun hc3 => ?_) (fun hc3 => ?_)
 · rw [if_neg hc3] at h
   have t4 := eq_false hc3
   refine rg tok [2, 3] fun K hK => ?_
   simp only [go_sem, qb, qa, t4]
   apply hK
   refine zj ?_
   obtain rfl := Option.some.inj h
   exact yr
 rw [if_pos hc3] at h
 have t5 := eq_true hc3
 refine zh ?_
 apply hZ2
 refine rc [2, 3] fun K hK => ?_
 obtain ⟨r6, hr6, h⟩ := bind_some h
 refine zb tok 1 ?_
 simp only [go_sem, qb, qa, t5]
 refine zi rfl rfl rfl (zZ.ev r1.1 r6 hr6 _) ?_
 rintro _ _ ⟨rfl, rfl⟩
 refine zb tok 4 ?_
 simp only [go_sem, qb, qa, qd]
 refine za ?_
 simp only [ze, upd, qa, reduceIte, zl, zq]
 apply hK
 refine zj ?_
 obtain rfl := Option.some.inj h
 exact yr
def yx.j3 (m1_2 : GRaw) : Option (GRaw × Int) :=
 (if 4096 < (qc m1_2.fB : Int) then some ((⟨0, 0, 0, []⟩ : GRaw), 4) else some (m1_2, 0))
def yx.body (yC : GValueNode → Option (List UInt8 × Int)) (z6 : Int → GValueValue → Option (GRaw × Int)) (yI : GValueNode → Option (List GRaw × Int)) (a0 : Int) (a1 : GValueValue) : Option (GRaw × Int) :=
 (xA a1).bind fun r8 => (match r8 with | .nil => (yx.j3 (⟨a0, 1, 0, []⟩ : GRaw)) | .num n9 => some ((⟨a0, 0, n9, []⟩ : GRaw), 0) | .str s9 => (yx.j3 (⟨a0, 1, 0, s9⟩ : GRaw)) | .node e9 r9 => (yC (⟨e9, r9⟩ : GValueNode)).bind fun r10 => (if r10.2 = 0 then (yx.j3 (⟨a0, 1, 0, r10.1⟩ : GRaw)) else some ((⟨0, 0, 0, []⟩ : GRaw), r10.2)))
theorem yx.step (yC : GValueNode → Option (List UInt8 × Int)) (z6 : Int → GValueValue → Option (GRaw × Int)) (yI : GValueNode → Option (List GRaw × Int)) (wC : ∀ (a0 : GValueNode) (r : List UInt8 × Int), yC a0 = some r → ACalls qh 127 [.dp (encGValueNode a0) 0] [] (fun r' _ => r' = .tup [.ds true (qg encB r.1) (qc r.1) false, .int .i64 r.2])) (wW : ∀ (a0 : Int) (a1 : GValueValue) (r : GRaw × Int), z6 a0 a1 = some r → ACalls qh 107 [.int .i64 a0, .agg (encGValueValue a1)] [] (fun r' _ => r' = .tup [.agg (encGRaw r.1), .int .i64 r.2])) (wJ : ∀ (a0 : GValueNode) (r : List GRaw × Int), yI a0 = some r → ACalls qh 75 [.dp (encGValueNode a0) 0] [] (fun r' _ => r' = .tup [.ds true (qg encGRaw r.1) (qc r.1) false, .int .i64 r.2])) (a0 : Int) (a1 : GValueValue) (r : GRaw × Int) (h : yx.body yC z6 yI a0 a1 = some r) : ACalls qh 107 [.int .i64 a0, .agg (encGValueValue a1)] [] (fun r' _ => r' = .tup [.agg (encGRaw r.1), .int .i64 r.2]) := by
 have ev_encode_bytes := fun a0 r h σ => (wC a0 r h).c σ
 have ev_encode_raw := fun a0 a1 r h σ => (wW a0 a1 r h).c σ
 have ev_encode_raws := fun a0 r h σ => (wJ a0 r h).c σ
 refine zn (rs := [.cell 4 33, .tmp 5]) tok Tryd.func107 rfl Tryd.ntmps107 rfl Tryd.call107 (by simp) ?_
 refine zt [(0, .int .i64 a0), (1, .agg (encGValueValue a1))] ⟨rfl, rfl, trivial⟩ ?_
 unfold yx.body at h
 have f1 := Zb a1
 unfold AV.one at f1
 refine rg tok [0, 3, 4] fun K hK => ?_
 simp only [go_sem, qb, qa, reduceCtorEq, encGValueValue, f1]
 apply hK
 refine rg tok [0, 3, 4, 6] fun K hK => ?_
 simp only [go_sem, qb, qe, qa, qd, reduceCtorEq]
 apply hK
 refine xK (fun L τ => ∃ (m1_2 : GRaw), L = ([(4, .op 0 0 0), (6, .op 1 0 0)] : List (Nat × AV)) ∧ τ = ([.cells 0 [.int .i64 0, .int .i64 0, .int .i64 0, .str []], .cells 0 [.int .i64 m1_2.fTag, .int .i64 m1_2.fWire, .int .i64 m1_2.fN, .str m1_2.fB]] : Store) ∧ yx.j3 m1_2 = some r) ?_ ?_
 · refine rc [0, 4, 6, 15] fun K hK => ?_
   obtain ⟨r8, hr8, h⟩ := bind_some h
   refine zb tok 1 ?_
   simp only [go_sem, qb, qe, qa, reduceCtorEq]
   refine zi rfl rfl rfl (xA.ev a1 r8 hr8 _) ?_
   rintro _ _ ⟨rfl, rfl⟩
   refine za ?_
   simp only [ze, ZP, upd, qa, reduceIte, zl, zq]
   apply hK
   refine zk ?_
   rcases r8 with _ | n9 | s9 | ⟨e9, r9⟩
   · dsimp only at h
     try simp only [anyV_nil]
     refine rg tok [0, 4, 6, 15, 17, 18] fun K hK => ?_
     simp only [go_sem, qb, qa, qd, reduceCtorEq, xu, xy, TypeDesc.isIface]
     apply hK
     refine zz rfl ?_
     refine rg tok [4, 6, 15, 23, 24] fun K hK => ?_
     simp only [go_sem, qb, qa, qd, reduceCtorEq, xu, xy, TypeDesc.isIface]
     apply hK
     refine zz rfl ?_
     refine rg tok [4, 6, 28, 29] fun K hK => ?_
     simp only [go_sem, qb, qa, qd, xu, xy, TypeDesc.isIface]
     apply hK
     refine zz rfl ?_
     refine zh ?_
     exact ⟨_, _, ⟨(⟨a0, 1, 0, []⟩ : GRaw), rfl, rfl, h⟩, (.t [1, 2] false)⟩
   · dsimp only at h
     try simp only [anyV_num]
     refine rg tok [0, 4, 6, 15, 17, 18] fun K hK => ?_
     simp only [go_sem, qb, qa, qd, reduceCtorEq, xu, xy, TypeDesc.isIface]
     apply hK
     refine zB rfl ?_
     refine rg tok [0, 4, 7] fun K hK => ?_
     simp only [go_sem, qb, qa, reduceCtorEq]
     apply hK
     refine rg tok [4, 5] fun K hK => ?_
     simp only [go_sem, qb, qe, qa, qd, reduceCtorEq]
     apply hK
     refine zj ?_
     obtain rfl := Option.some.inj h
     exact yr
   · dsimp only at h
     try simp only [anyV_str]
     refine rg tok [0, 4, 6, 15, 17, 18] fun K hK => ?_
     simp only [go_sem, qb, qa, qd, reduceCtorEq, xu, xy, TypeDesc.isIface]
     apply hK
     refine zz rfl ?_
     refine rg tok [4, 6, 15, 23, 24] fun K hK => ?_
     simp only [go_sem, qb, qa, qd, reduceCtorEq, xu, xy, TypeDesc.isIface]
     apply hK
     refine zB rfl ?_
     refine rg tok [4, 6, 8] fun K hK => ?_
     simp only [go_sem, qb, qa]
     apply hK
     refine rgE tok [4, 6] fun K hK => ?_
     simp only [go_sem, qb, qe, qa, qd]
     apply hK
     exact ⟨_, _, ⟨(⟨a0, 1, 0, s9⟩ : GRaw), rfl, rfl, h⟩, (.t [1, 2] false)⟩
   dsimp only at h
   try simp only [anyV_node]
   refine rg tok [0, 4, 6, 15, 17, 18] fun K hK => ?_
   simp only [go_sem, qb, qa, qd, reduceCtorEq, xu, xy, TypeDesc.isIface]
   apply hK
   refine zz rfl ?_
   refine rg tok [4, 6, 15, 23, 24] fun K hK => ?_
   simp only [go_sem, qb, qa, qd, reduceCtorEq, xu, xy, TypeDesc.isIface]
   apply hK
   refine zz rfl ?_
   refine rg tok [4, 6, 28, 29] fun K hK => ?_
   simp only [go_sem, qb, qa, qd, xu, xy, TypeDesc.isIface]
   apply hK
   refine zB rfl ?_
   refine rg tok [4, 6, 9] fun K hK => ?_
   simp only [go_sem, qb, qa]
   apply hK
   refine rc [4, 6, 10, 11] fun K hK => ?_
   obtain ⟨r10, hr10, h⟩ := bind_some h
   refine zb tok 1 ?_
   simp only [go_sem, qb, qa]
   refine zi rfl rfl rfl (ev_encode_bytes (⟨e9, r9⟩ : GValueNode) r10 hr10 _) ?_
   rintro _ _ ⟨rfl, rfl⟩
   refine zb tok 5 ?_
   simp only [go_sem, qb, qa, qd]
   refine za ?_
   simp only [ze, upd, qa, reduceIte, zl, zq]
   apply hK
   refine zd fun Z11 hZ11 => ?_
   refine rg tok [4, 6, 10, 11, 36] fun K hK => ?_
   simp only [go_sem, qb, qa]
   apply hK
   refine zI rfl (fun hc12 => ?_) (fun hc12 => ?_)
   · rw [if_neg hc12] at h
     have t13 := eq_false hc12
     refine rg tok [4, 5] fun K hK => ?_
     simp only [go_sem, qb, qe, qa, qd, t13]
     apply hK
     refine zj ?_
     obtain rfl := Option.some.inj h
     exact yr
   rw [if_pos hc12] at h
   have t14 := eq_true hc12
   refine zh ?_
   apply hZ11
   have f15 := conv_b2s (T := tab) (src := 35) (dst := 9) rfl rfl rfl rfl rfl rfl r10.1
   refine rgE tok [4, 6] fun K hK => ?_
   simp only [go_sem, qb, qe, qa, qd, t14, f15]
   apply hK
   exact ⟨_, _, ⟨(⟨a0, 1, 0, r10.1⟩ : GRaw), rfl, rfl, h⟩, (.t [1, 2] false)⟩
 rintro _ _ ⟨m1_2, rfl, rfl, h⟩
 unfold yx.j3 at h
 refine zd fun Z4 hZ4 => ?_
 refine rg tok [4, 6, 45] fun K hK => ?_
 simp only [go_sem, qb, qa, qd]
 apply hK
 refine zI rfl (fun hc5 => ?_) (fun hc5 => ?_)
 · rw [if_pos hc5] at h
   have t6 := eq_true hc5
   refine rg tok [4, 5] fun K hK => ?_
   simp only [go_sem, qb, qe, qa, qd, t6]
   apply hK
   refine zj ?_
   obtain rfl := Option.some.inj h
   exact yr
 rw [if_neg hc5] at h
 have t7 := eq_false hc5
 refine zh ?_
 apply hZ4
 refine rg tok [4, 5] fun K hK => ?_
 simp only [go_sem, qb, qe, qa, qd, t7]
 apply hK
 refine zj ?_
 obtain rfl := Option.some.inj h
 exact yr
def zN.l24 (z6 : Int → GValueValue → Option (GRaw × Int)) (x6 : Int) (rec10 : Int → List GRaw → Option (List GRaw × Int)) (y10 : Int) : List GValueValue → Int → List GRaw → Option (List GRaw × Int)
 | [], x20, l18 => (rec10 (x6 + 1) l18)
 | y24 :: q24, x20, l18 => (z6 y10 y24).bind fun r31 => (if r31.2 = 0 then (YN (qc l18 + 1) 40).bind fun _u36 => ((zN.l24 z6 x6 rec10 y10 q24) (x20 + 1) (l18 ++ [r31.1])) else some (([] : List GRaw), r31.2))
def zN.l10 (z6 : Int → GValueValue → Option (GRaw × Int)) (a0 : GValueNode) : List Int → Int → List GRaw → Option (List GRaw × Int)
 | [], x6, l4 => (zH l4).bind fun r12 => some (r12, 0)
 | y10 :: q10, x6, l4 => (yk a0 y10).bind fun r17 => (zN.l24 z6 x6 (zN.l10 z6 a0 q10) y10 r17 0 l4)
def zN.body (yC : GValueNode → Option (List UInt8 × Int)) (z6 : Int → GValueValue → Option (GRaw × Int)) (yI : GValueNode → Option (List GRaw × Int)) (a0 : GValueNode) : Option (List GRaw × Int) :=
 (wb a0).bind fun r1 => (zW a0).bind fun r3 => (zN.l10 z6 a0 r3 0 r1)
theorem zN.step (yC : GValueNode → Option (List UInt8 × Int)) (z6 : Int → GValueValue → Option (GRaw × Int)) (yI : GValueNode → Option (List GRaw × Int)) (wC : ∀ (a0 : GValueNode) (r : List UInt8 × Int), yC a0 = some r → ACalls qh 127 [.dp (encGValueNode a0) 0] [] (fun r' _ => r' = .tup [.ds true (qg encB r.1) (qc r.1) false, .int .i64 r.2])) (wW : ∀ (a0 : Int) (a1 : GValueValue) (r : GRaw × Int), z6 a0 a1 = some r → ACalls qh 107 [.int .i64 a0, .agg (encGValueValue a1)] [] (fun r' _ => r' = .tup [.agg (encGRaw r.1), .int .i64 r.2])) (wJ : ∀ (a0 : GValueNode) (r : List GRaw × Int), yI a0 = some r → ACalls qh 75 [.dp (encGValueNode a0) 0] [] (fun r' _ => r' = .tup [.ds true (qg encGRaw r.1) (qc r.1) false, .int .i64 r.2])) (a0 : GValueNode) (r : List GRaw × Int) (h : zN.body yC z6 yI a0 = some r) : ACalls qh 75 [.dp (encGValueNode a0) 0] [] (fun r' _ => r' = .tup [.ds true (qg encGRaw r.1) (qc r.1) false, .int .i64 r.2]) := by
 have ev_encode_bytes := fun a0 r h σ => (wC a0 r h).c σ
 have ev_encode_raw := fun a0 a1 r h σ => (wW a0 a1 r h).c σ
 have ev_encode_raws := fun a0 r h σ => (wJ a0 r h).c σ
 refine zn (rs := [.tmp 2, .tmp 3]) tok Tryd.func75 rfl Tryd.ntmps75 rfl Tryd.call75 (by simp) ?_
 refine zt [(0, .dp (encGValueNode a0) 0)] ⟨rfl, trivial⟩ ?_
 unfold zN.body at h
 refine rg tok [0] fun K hK => ?_
 simp only [go_sem, qb, reduceCtorEq]
 apply hK
 refine rc [0, 4] fun K hK => ?_
 obtain ⟨r1, hr1, h⟩ := bind_some h
 refine zb tok 1 ?_
 simp only [go_sem, qb]
 refine zi rfl rfl rfl (@id (ACalls qh 104 [.dp (encGValueNode a0) 0] [] (fun r' σ' => r' = .os true 4 0 0 0 (qc r1) false ∧ σ' = [.cells 0 (qg encGRaw r1)])) ((wb.own a0 r1 hr1).ownAt0 (by simp only [push_cast]) (by simp only [push_cast]) _)) ?_
 rintro _ _ ⟨rfl, rfl⟩
 refine zb tok 1 ?_
 simp only [go_sem, qb, qa, reduceCtorEq]
 refine za ?_
 simp only [ze, upd, qa, reduceIte, zl, zq]
 apply hK
 refine zd fun Z2 hZ2 => ?_
 refine rc [0, 4, 14, 15, 16] fun K hK => ?_
 obtain ⟨r3, hr3, h⟩ := bind_some h
 refine zb tok 1 ?_
 simp only [go_sem, qb, reduceCtorEq]
 refine zi rfl rfl rfl (zW.ev a0 r3 hr3 _) ?_
 rintro _ _ ⟨rfl, rfl⟩
 refine zb tok 2 ?_
 simp only [go_sem, qb, qa, reduceCtorEq]
 refine za ?_
 simp only [ze, upd, qa, reduceIte, zl, zq]
 apply hK
 refine zk ?_
 refine yW 14 fun hb10 => ?_
 replace hb10 : qc r3 ≤ 9223372036854775807 := hb10.1
 refine zF (fun m L τ => ∃ (p10 q10 : List Int) (x6 : Int) (l4 : List GRaw) (v5 : Nat), m = qc q10 ∧ L = ([(0, .dp (encGValueNode a0) 0), (4, .os true 4 0 v5 0 (qc l4) false), (14, .ds true (qg encI r3) (qc r3) false), (15, .int .i64 (qc r3 : Int)), (16, .int .i64 x6)] : List (Nat × AV)) ∧ τ = ([.cells v5 (qg encGRaw l4)] : Store) ∧ r3 = p10 ++ q10 ∧ x6 = (qc p10 : Int) ∧ zN.l10 z6 a0 q10 x6 l4 = some r) _ ⟨[], r3, 0, r1, 0, rfl, rfl, rfl, rfl, rfl, h⟩ .s ?_
 rintro m L τ ⟨p10, q10, x6, l4, v5, rfl, rfl, rfl, hE10, hi10, h⟩
 rcases q10 with _ | ⟨y10, q10⟩
 · have hz10 := yz hE10 hi10
   simp only [zN.l10] at h
   refine rg tok [0, 4, 14, 15, 16, 17] fun K hK => ?_
   simp only [go_sem, qb, qa, reduceCtorEq, hz10]
   apply hK
   refine zd fun Z11 hZ11 => ?_
   refine zz rfl ?_
   refine zM ?_
   apply hZ2
   refine rc [2, 3] fun K hK => ?_
   obtain ⟨r12, hr12, h⟩ := bind_some h
   refine zb tok 1 ?_
   simp only [go_sem, qb, qa, reduceCtorEq]
   refine va4 (L := [(43, .ds true (qg encGRaw l4) (qc l4) false)]) (τ := []) (.t [] false) ?_
   refine zi rfl rfl rfl (zH.ev l4 r12 hr12 _) ?_
   rintro _ _ ⟨rfl, rfl⟩
   refine zb tok 2 ?_
   simp only [go_sem, qb, qa]
   refine za ?_
   simp only [ze, upd, qa, reduceIte, zl, zq]
   apply hK
   refine zj ?_
   obtain rfl := Option.some.inj h
   exact yr
 obtain ⟨hz10, hw10, hx10, hE'10, hi'10⟩ := yg hE10 hi10 hb10
 simp only [zN.l10] at h
 refine rg tok [0, 4, 14, 15, 16, 17] fun K hK => ?_
 simp only [go_sem, qb, qa, reduceCtorEq, hz10]
 apply hK
 refine zd fun Z13 hZ13 => ?_
 refine zB rfl ?_
 refine zh ?_
 apply hZ13
 refine zd fun Z14 hZ14 => ?_
 refine zk ?_
 have f15 := E24.idxS hx10
 have f16 := E24.fldS0 (f := 3) rfl rfl hx10
 refine rg tok [0, 4, 6, 14, 15, 16] fun K hK => ?_
 simp only [go_sem, qb, qa, reduceCtorEq, encI, f15, f16]
 apply hK
 refine rc [0, 4, 6, 14, 15, 16, 22, 23, 24] fun K hK => ?_
 obtain ⟨r17, hr17, h⟩ := bind_some h
 refine zb tok 2 ?_
 simp only [go_sem, qb, qa, reduceCtorEq]
 refine zi rfl rfl rfl (yk.ev a0 y10 r17 hr17 _) ?_
 rintro _ _ ⟨rfl, rfl⟩
 refine zb tok 2 ?_
 simp only [go_sem, qb, qa, reduceCtorEq]
 refine za ?_
 simp only [ze, upd, qa, reduceIte, zl, zq]
 apply hK
 refine zk ?_
 refine yW 22 fun hb24 => ?_
 replace hb24 : qc r17 ≤ 9223372036854775807 := hb24.1
 refine zF (fun m L τ => ∃ (p24 q24 : List GValueValue) (x20 : Int) (l18 : List GRaw) (v19 : Nat), m = qc q24 ∧ L = ([(0, .dp (encGValueNode a0) 0), (4, .os true 4 0 v19 0 (qc l18) false), (6, .int .i64 y10), (14, .ds true (qg encI r3) (qc r3) false), (15, .int .i64 (qc r3 : Int)), (16, .int .i64 x6), (22, .ds true (qg encGValueValue r17) (qc r17) false), (23, .int .i64 (qc r17 : Int)), (24, .int .i64 x20)] : List (Nat × AV)) ∧ τ = ([.cells v19 (qg encGRaw l18)] : Store) ∧ r17 = p24 ++ q24 ∧ x20 = (qc p24 : Int) ∧ zN.l24 z6 x6 (zN.l10 z6 a0 q10) y10 q24 x20 l18 = some r) _ ⟨[], r17, 0, l4, v5, rfl, rfl, rfl, rfl, rfl, h⟩ .s ?_
 rintro m L τ ⟨p24, q24, x20, l18, v19, rfl, rfl, rfl, hE24, hi24, h⟩
 rcases q24 with _ | ⟨y24, q24⟩
 · have hz24 := yz hE24 hi24
   simp only [zN.l24] at h
   refine rg tok [0, 4, 6, 14, 15, 16, 22, 23, 24, 25] fun K hK => ?_
   simp only [go_sem, qb, qa, reduceCtorEq, hz24]
   apply hK
   refine zd fun Z25 hZ25 => ?_
   refine zz rfl ?_
   refine zM ?_
   apply hZ14
   refine rgE tok [0, 4, 14, 15, 16] fun K hK => ?_
   simp only [go_sem, qb, qa, reduceCtorEq, hw10]
   apply hK
   exact ⟨_, _, _, qu q10.length, ⟨p10 ++ [y10], q10, x6 + 1, l18, v19, rfl, rfl, rfl, hE'10, hi'10, h⟩, .s⟩
 obtain ⟨hz24, hw24, hx24, hE'24, hi'24⟩ := yg hE24 hi24 hb24
 simp only [zN.l24] at h
 refine rg tok [0, 4, 6, 14, 15, 16, 22, 23, 24, 25] fun K hK => ?_
 simp only [go_sem, qb, qa, reduceCtorEq, hz24]
 apply hK
 refine zd fun Z26 hZ26 => ?_
 refine zB rfl ?_
 refine zh ?_
 apply hZ26
 refine zd fun Z27 hZ27 => ?_
 refine zk ?_
 have f28 := E155.idxS hx24
 have f29 := E155.loadS rfl rfl hx24
 have f30 := Zb y24
 unfold AV.one at f30
 refine rg tok [0, 4, 6, 8, 14, 15, 16, 22, 23, 24] fun K hK => ?_
 simp only [go_sem, qb, qe, qa, reduceCtorEq, encGValueValue, f28, f29, f30]
 apply hK
 refine rc [0, 4, 6, 9, 10, 14, 15, 16, 22, 23, 24] fun K hK => ?_
 obtain ⟨r31, hr31, h⟩ := bind_some h
 refine zb tok 2 ?_
 simp only [go_sem, qb, qe, qa, reduceCtorEq]
 refine zi rfl rfl rfl (ev_encode_raw y10 y24 r31 hr31 _) ?_
 rintro _ _ ⟨rfl, rfl⟩
 refine zb tok 6 ?_
 simp only [go_sem, qb, qe, qa, qd, reduceCtorEq, encGRaw]
 refine za ?_
 simp only [ze, upd, qa, reduceIte, zl, zq]
 apply hK
 refine zd fun Z32 hZ32 => ?_
 refine rg tok [0, 4, 6, 9, 10, 14, 15, 16, 22, 23, 24, 35] fun K hK => ?_
 simp only [go_sem, qb, qa, reduceCtorEq]
 apply hK
 refine zI rfl (fun hc33 => ?_) (fun hc33 => ?_)
 · rw [if_neg hc33] at h
   have t34 := eq_false hc33
   refine rg tok [2, 3] fun K hK => ?_
   simp only [go_sem, qb, qa, reduceCtorEq, t34]
   apply hK
   refine zj ?_
   obtain rfl := Option.some.inj h
   exact yr
 rw [if_pos hc33] at h
 have t35 := eq_true hc33
 refine zh ?_
 apply hZ32
 obtain ⟨_u36, hu36, h⟩ := bind_some h
 have gu36 := yy hu36
 have f37 := (zK E22.len l18)
 refine rgE tok [0, 4, 6, 14, 15, 16, 22, 23, 24] fun K hK => ?_
 simp only [go_sem, qb, qe, qa, qd, qw, reduceCtorEq, zR, z8, ug, qY, true_and, ul, yn, zY, yq, t35, gu36, f37, yS, uf, qZ, AV.one, qS, qA, qk, qn, qt, qC]
 apply hK
 apply hZ27
 refine rgE tok [0, 4, 6, 14, 15, 16, 22, 23, 24] fun K hK => ?_
 simp only [go_sem, qb, qa, reduceCtorEq, hw24]
 apply hK
 exact ⟨_, _, _, qu q24.length, ⟨p24 ++ [y24], q24, x20 + 1, l18 ++ [r31.1], v19 + 1, rfl, rfl, rfl, hE'24, hi'24, h⟩, (.t [0] false)⟩
mutual
def yR : Nat → GValueNode → Option (List UInt8 × Int)
 | 0, _ => none
 | k + 1, a0 => yR.body (yR k) (yx k) (zN k) a0
def yx : Nat → Int → GValueValue → Option (GRaw × Int)
 | 0, _, _ => none
 | k + 1, a0, a1 => yx.body (yR k) (yx k) (zN k) a0 a1
def zN : Nat → GValueNode → Option (List GRaw × Int)
 | 0, _ => none
 | k + 1, a0 => zN.body (yR k) (yx k) (zN k) a0
end
theorem yR.all (k : Nat) : (∀ (a0 : GValueNode) (r : List UInt8 × Int), yR k a0 = some r → ACalls qh 127 [.dp (encGValueNode a0) 0] [] (fun r' _ => r' = .tup [.ds true (qg encB r.1) (qc r.1) false, .int .i64 r.2])) ∧ (∀ (a0 : Int) (a1 : GValueValue) (r : GRaw × Int), yx k a0 a1 = some r → ACalls qh 107 [.int .i64 a0, .agg (encGValueValue a1)] [] (fun r' _ => r' = .tup [.agg (encGRaw r.1), .int .i64 r.2])) ∧ (∀ (a0 : GValueNode) (r : List GRaw × Int), zN k a0 = some r → ACalls qh 75 [.dp (encGValueNode a0) 0] [] (fun r' _ => r' = .tup [.ds true (qg encGRaw r.1) (qc r.1) false, .int .i64 r.2])) := by
 induction k with
 | zero => exact ⟨(fun a0 r h => by simp only [yR] at h; cases h), (fun a0 a1 r h => by simp only [yx] at h; cases h), (fun a0 r h => by simp only [zN] at h; cases h)⟩
 | succ k ih => exact ⟨(fun a0 r h => yR.step _ _ _ ih.1 ih.2.1 ih.2.2 a0 r (by simpa only [yR] using h)), (fun a0 a1 r h => yx.step _ _ _ ih.1 ih.2.1 ih.2.2 a0 a1 r (by simpa only [yx] using h)), (fun a0 r h => zN.step _ _ _ ih.1 ih.2.1 ih.2.2 a0 r (by simpa only [zN] using h))⟩
theorem zN.ev (k : Nat) (a0 : GValueNode) (r : List GRaw × Int) (h : zN k a0 = some r) (σ : Store) : ACalls qh 75 [.dp (encGValueNode a0) 0] σ (fun r' σ' => r' = .tup [.ds true (qg encGRaw r.1) (qc r.1) false, .int .i64 r.2] ∧ σ' = σ) :=
 ((yR.all k).2.2 a0 r h).c σ
def xZ (a0 : GTree) : Option (List GRaw × Int) :=
 (Zi a0).bind fun r1 => (if ((!r1.2) || (!(decide (a0.fKind = 3)))) = true then some (([] : List GRaw), 1) else (yu r1.1).bind fun r5 => (zN rounds r5).bind fun r6 => some (r6.1, r6.2))
theorem xZ.ok (a0 : GTree) (r : List GRaw × Int) (h : xZ a0 = some r) : ACalls qh 50 [.agg (cellsGTree a0)] [] (fun r' _ => r' = .tup [.ds true (qg encGRaw r.1) (qc r.1) false, .int .i64 r.2]) := by
 refine zn (rs := [.tmp 2, .tmp 3]) tok Tryd.func50 rfl Tryd.ntmps50 rfl Tryd.call50 (by simp) ?_
 refine zt [(0, .agg (cellsGTree a0))] ⟨rfl, trivial⟩ ?_
 unfold xZ at h
 refine rg tok [1] fun K hK => ?_
 simp only [go_sem, qb, qa, qd, reduceCtorEq, cellsGTree]
 apply hK
 refine rc [1, 4, 5] fun K hK => ?_
 obtain ⟨r1, hr1, h⟩ := bind_some h
 refine zb tok 1 ?_
 simp only [go_sem, qb, qe, qd]
 refine zi rfl rfl rfl (Zi.ev a0 r1 hr1 _) ?_
 rintro _ _ ⟨rfl, rfl⟩
 have f2 := Zb r1.1
 unfold AV.one at f2
 refine zb tok 6 ?_
 simp only [go_sem, qb, qe, qa, qd, encGValueValue, f2]
 refine za ?_
 simp only [ze, upd, qa, reduceIte, zl, zq]
 apply hK
 refine zd fun Z3 hZ3 => ?_
 refine rc [4, 17] fun K hK => ?_
 refine zb tok 3 ?_
 simp only [go_sem, qb, qa]
 refine zo 4 (fun L τ => L = ([(4, .op 1 0 0), (17, .bool ((!r1.2) || (!(decide (a0.fKind = 3)))))] : List (Nat × AV)) ∧ τ = ([.cells 0 (cellsGTree a0), .cells 0 [ifcV r1.1]] : Store)) ?_ ?_
 · refine zQ (b := (!r1.2)) 13 rfl (fun hg13 => ?_) (fun hg13 => ?_)
   · refine zb tok 4 ?_
     simp only [go_sem, qb, qa]
     refine za ⟨rfl, _, _, ⟨rfl, rfl⟩, .b hg13⟩
   refine zb tok 4 ?_
   simp only [go_sem, qb, qa, qd]
   refine za ⟨rfl, _, _, ⟨rfl, rfl⟩, .b hg13⟩
 rintro _ _ ⟨rfl, rfl⟩
 refine za ?_
 simp only [ze, qa, reduceIte, zl, zq]
 apply hK
 refine zv (b := ((!r1.2) || (!(decide (a0.fKind = 3))))) rfl (fun hc4 => ?_) (fun hc4 => ?_)
 · rw [if_pos hc4] at h
   refine rg tok [2, 3] fun K hK => ?_
   simp only [go_sem, qb, qa]
   apply hK
   refine zj ?_
   obtain rfl := Option.some.inj h
   exact yr
 rw [xD hc4] at h
 refine zh ?_
 apply hZ3
 refine rc [2, 3] fun K hK => ?_
 obtain ⟨r5, hr5, h⟩ := bind_some h
 refine zb tok 1 ?_
 simp only [go_sem, qb, qe, qa]
 refine zi rfl rfl rfl (yu.ev r1.1 r5 hr5 _) ?_
 rintro _ _ ⟨rfl, rfl⟩
 obtain ⟨r6, hr6, h⟩ := bind_some h
 refine zi rfl rfl rfl (zN.ev rounds r5 r6 hr6 _) ?_
 rintro _ _ ⟨rfl, rfl⟩
 refine zb tok 4 ?_
 simp only [go_sem, qb, qa, qd]
 refine za ?_
 simp only [ze, upd, qa, reduceIte, zl, zq]
 apply hK
 refine zj ?_
 obtain rfl := Option.some.inj h
 exact yr
theorem xZ.ev (a0 : GTree) (r : List GRaw × Int) (h : xZ a0 = some r) (σ : Store) : ACalls qh 50 [.agg (cellsGTree a0)] σ (fun r' σ' => r' = .tup [.ds true (qg encGRaw r.1) (qc r.1) false, .int .i64 r.2] ∧ σ' = σ) :=
 (xZ.ok a0 r h).c σ
def xo (a0 : GTree) : Option (List UInt8 × Int) :=
 (xZ a0).bind fun r1 => (if r1.2 = 0 then (zZ r1.1).bind fun r6 => some (r6.1, r6.2) else some (([] : List UInt8), r1.2))
theorem xo.ok (a0 : GTree) (r : List UInt8 × Int) (h : xo a0 = some r) : ACalls qh 31 [.agg (cellsGTree a0)] [] (fun r' _ => r' = .tup [.ds true (qg encB r.1) (qc r.1) false, .int .i64 r.2]) := by
 refine zn (rs := [.tmp 2, .tmp 3]) tok Tryd.func31 rfl Tryd.ntmps31 rfl Tryd.call31 (by simp) ?_
 refine zt [(0, .agg (cellsGTree a0))] ⟨rfl, trivial⟩ ?_
 unfold xo at h
 refine rg tok [1] fun K hK => ?_
 simp only [go_sem, qb, qa, qd, reduceCtorEq, cellsGTree]
 apply hK
 refine rc [4, 5] fun K hK => ?_
 obtain ⟨r1, hr1, h⟩ := bind_some h
 refine zb tok 1 ?_
 simp only [go_sem, qb, qe, qd]
 refine zi rfl rfl rfl (xZ.ev a0 r1 hr1 _) ?_
 rintro _ _ ⟨rfl, rfl⟩
 refine zb tok 5 ?_
 simp only [go_sem, qb, qa, qd]
 refine za ?_
 simp only [ze, upd, qa, reduceIte, zl, zq]
 apply hK
 refine zd fun Z2 hZ2 => ?_
 refine rg tok [4, 5, 12] fun K hK => ?_
 simp only [go_sem, qb, qa]
 apply hK
 refine zI rfl (fun hc3 => ?_) (fun hc3 => ?_)
 · rw [if_neg hc3] at h
   have t4 := eq_false hc3
   refine rg tok [2, 3] fun K hK => ?_
   simp only [go_sem, qb, qa, t4]
   apply hK
   refine zj ?_
   obtain rfl := Option.some.inj h
   exact yr
 rw [if_pos hc3] at h
 have t5 := eq_true hc3
 refine zh ?_
 apply hZ2
 refine rc [2, 3] fun K hK => ?_
 obtain ⟨r6, hr6, h⟩ := bind_some h
 refine zb tok 1 ?_
 simp only [go_sem, qb, qa, t5]
 refine zi rfl rfl rfl (zZ.ev r1.1 r6 hr6 _) ?_
 rintro _ _ ⟨rfl, rfl⟩
 refine zb tok 4 ?_
 simp only [go_sem, qb, qa, qd]
 refine za ?_
 simp only [ze, upd, qa, reduceIte, zl, zq]
 apply hK
 refine zj ?_
 obtain rfl := Option.some.inj h
 exact yr
theorem xo.ev (a0 : GTree) (r : List UInt8 × Int) (h : xo a0 = some r) (σ : Store) : ACalls qh 31 [.agg (cellsGTree a0)] σ (fun r' σ' => r' = .tup [.ds true (qg encB r.1) (qc r.1) false, .int .i64 r.2] ∧ σ' = σ) :=
 (xo.ok a0 r h).c σ
def zD.l25 (x2 : Int) (x3 : Int) (rec6 : Int → Int → Option Bool) (y12 : GMessage) : List GField → Int → Option Bool
 | [], x23 => (rec6 (IntKind.i64.wrap (x2 + (qc y12.fName : Int))) (IntKind.i64.wrap (x3 + 1)))
 | y25 :: q25, x23 => (if ((decide (200 < (qc y25.fName : Int))) || (decide (200 < (qc y25.fType.fName : Int)))) = true then some false else ((zD.l25 x2 x3 rec6 y12 q25) (x23 + 1)))
def zD.l60 (x41 : Int) (rec43 : Int → Option Bool) : List GNamed → Int → Option Bool
 | [], x58 => (rec43 (IntKind.i64.wrap (x41 + 1)))
 | y60 :: q60, x58 => (if 200 < (qc y60.fName : Int) then some false else ((zD.l60 x41 rec43 q60) (x58 + 1)))
def zD.l78 (a0 : GSchema) (x2 : Int) : Nat → Int → Option Bool
 | 0, _ => none
 | k78 + 1, x76 => (if ((decide (x76 < (qc a0.fMethods : Int))) && (decide (x76 < 20))) = true then (Zj a0.fMethods x76).bind fun y84 => (if (((decide (200 < (qc y84.fName : Int))) || (decide (200 < (qc y84.fIn : Int)))) || (decide (200 < (qc y84.fOut : Int)))) = true then some false else ((zD.l78 a0 x2 k78) (IntKind.i64.wrap (x76 + 1)))) else some ((((decide (x2 < 3000)) && (decide ((qc a0.fMessages : Int) ≤ 14))) && (decide ((qc a0.fEnums : Int) ≤ 10))) && (decide ((qc a0.fMethods : Int) ≤ 10))))
def zD.l43 (a0 : GSchema) (x2 : Int) : Nat → Int → Option Bool
 | 0, _ => none
 | k43 + 1, x41 => (if ((decide (x41 < (qc a0.fEnums : Int))) && (decide (x41 < 20))) = true then (Zj a0.fEnums x41).bind fun y50 => (if ((decide (200 < (qc y50.fName : Int))) || (decide (24 < (qc y50.fValues : Int)))) = true then some false else (zD.l60 x41 (zD.l43 a0 x2 k43) y50.fValues 0)) else (zD.l78 a0 x2 rounds 0))
def zD.l6 (a0 : GSchema) : Nat → Int → Int → Option Bool
 | 0, _, _ => none
 | k6 + 1, x2, x3 => (if ((decide (x3 < (qc a0.fMessages : Int))) && (decide (x3 < 20))) = true then (Zj a0.fMessages x3).bind fun y12 => (if ((decide (20 < (qc y12.fFields : Int))) || (decide (40 < (qc y12.fReserved : Int)))) = true then some false else (zD.l25 x2 x3 (zD.l6 a0 k6) y12 y12.fFields 0)) else (zD.l43 a0 x2 rounds 0))
def zD (a0 : GSchema) : Option Bool :=
 (zD.l6 a0 rounds (qc a0.fName : Int) 0)
theorem zD.ok (a0 : GSchema) (r : Bool) (h : zD a0 = some r) : ACalls qh 22 [.agg (encGSchema a0)] [] (fun r' _ => r' = .bool r) := by
 refine zn (rs := [.tmp 2]) tok Tryd.func22 rfl Tryd.ntmps22 rfl Tryd.call22 (by simp) ?_
 refine zt [(0, .agg (encGSchema a0))] ⟨rfl, trivial⟩ ?_
 unfold zD at h
 refine rg tok [1] fun K hK => ?_
 simp only [go_sem, qb, qa, qd, reduceCtorEq, encGSchema]
 apply hK
 refine rg tok [1, 3] fun K hK => ?_
 simp only [go_sem, qb, qa, qd]
 apply hK
 refine zd fun Z1 hZ1 => ?_
 refine rg tok [1, 3, 4] fun K hK => ?_
 simp only [go_sem, qb, qa]
 apply hK
 refine zk ?_
 refine zF (fun m L τ => ∃ (k6 : Nat) (x2 : Int) (x3 : Int), m = 0 + k6 ∧ L = ([(1, .op 0 0 0), (3, .int .i64 x2), (4, .int .i64 x3)] : List (Nat × AV)) ∧ τ = ([.cells 0 (encGSchema a0)] : Store) ∧ zD.l6 a0 k6 x2 x3 = some r) _ ⟨rounds, (qc a0.fName : Int), 0, rfl, rfl, rfl, h⟩ .s ?_
 rintro m L τ ⟨k6, x2, x3, rfl, rfl, rfl, h⟩
 rcases k6 with _ | k6
 · cases h
 simp only [zD.l6] at h
 refine zd fun Z7 hZ7 => ?_
 refine rc [1, 3, 4, 21] fun K hK => ?_
 refine zb tok 6 ?_
 simp only [go_sem, qb, qa, qd]
 refine zo 3 (fun L τ => L = ([(1, .op 0 0 0), (3, .int .i64 x2), (4, .int .i64 x3), (21, .bool ((decide (x3 < (qc a0.fMessages : Int))) && (decide (x3 < 20))))] : List (Nat × AV)) ∧ τ = ([.cells 0 (encGSchema a0)] : Store)) ?_ ?_
 · refine yN 18 rfl (fun hg18 => ?_) (fun hg18 => ?_)
   · have t8 := eq_true hg18
     refine zb tok 3 ?_
     simp only [go_sem, qb, qa]
     refine za ⟨rfl, _, _, ⟨rfl, rfl⟩, .p t8⟩
   have t9 := eq_false hg18
   refine zb tok 3 ?_
   simp only [go_sem, qb, qa]
   refine za ⟨rfl, _, _, ⟨rfl, rfl⟩, .p t9⟩
 rintro _ _ ⟨rfl, rfl⟩
 refine za ?_
 simp only [ze, qa, reduceIte, zl, zq]
 apply hK
 refine zv (b := ((decide (x3 < (qc a0.fMessages : Int))) && (decide (x3 < 20)))) rfl (fun hc10 => ?_) (fun hc10 => ?_)
 · rw [if_pos hc10] at h
   refine zh ?_
   apply hZ7
   refine zd fun Z11 hZ11 => ?_
   refine zk ?_
   obtain ⟨y12, hy12, h⟩ := bind_some h
   have f13 := E27.idxS hy12
   have f14 := E27.fldS0 (f := 9) rfl rfl hy12
   refine rg tok [1, 3, 4] fun K hK => ?_
   simp only [go_sem, qb, qa, qd, encGMessage, f13, f14]
   apply hK
   refine zd fun Z15 hZ15 => ?_
   refine rc [1, 3, 4, 50] fun K hK => ?_
   have f16 := E27.idxS hy12
   have f17 := E27.fldS (f := 23) rfl rfl hy12 (o := 1) (by decide)
   refine zb tok 9 ?_
   simp only [go_sem, qb, qa, qd, encGMessage, f16, f17]
   refine zo 9 (fun L τ => L = ([(1, .op 0 0 0), (3, .int .i64 (IntKind.i64.wrap (x2 + (qc y12.fName : Int)))), (4, .int .i64 x3), (50, .bool ((decide (20 < (qc y12.fFields : Int))) || (decide (40 < (qc y12.fReserved : Int)))))] : List (Nat × AV)) ∧ τ = ([.cells 0 (encGSchema a0)] : Store)) ?_ ?_
   · refine yN 41 rfl (fun hg41 => ?_) (fun hg41 => ?_)
     · have t18 := eq_true hg41
       refine zb tok 9 ?_
       simp only [go_sem, qb, qa]
       refine za ⟨rfl, _, _, ⟨rfl, rfl⟩, .p t18⟩
     have t19 := eq_false hg41
     have f20 := E27.idxS hy12
     have f21 := E27.fldS (f := 24) rfl rfl hy12 (o := 2) (by decide)
     refine zb tok 9 ?_
     simp only [go_sem, qb, qa, qd, encGMessage, f20, f21]
     refine za ⟨rfl, _, _, ⟨rfl, rfl⟩, .p t19⟩
   rintro _ _ ⟨rfl, rfl⟩
   refine za ?_
   simp only [ze, qa, reduceIte, zl, zq]
   apply hK
   refine zv (b := ((decide (20 < (qc y12.fFields : Int))) || (decide (40 < (qc y12.fReserved : Int))))) rfl (fun hc22 => ?_) (fun hc22 => ?_)
   · rw [if_pos hc22] at h
     refine rg tok [2] fun K hK => ?_
     simp only [go_sem, qb, qa]
     apply hK
     refine zj ?_
     obtain rfl := Option.some.inj h
     exact yr
   rw [xD hc22] at h
   refine zh ?_
   apply hZ15
   refine rg tok [1, 3, 4, 5] fun K hK => ?_
   simp only [go_sem, qb, qa]
   apply hK
   refine zk ?_
   refine xJ 0 rfl fun hb25 => ?_
   replace hb25 := deepL_idx hb25.2.1.2 hy12
   replace hb25 : qc y12.fFields ≤ 9223372036854775807 := hb25.2.1.1
   refine zF (fun m L τ => ∃ (p25 q25 : List GField) (x23 : Int), m = qc q25 ∧ L = ([(1, .op 0 0 0), (3, .int .i64 (IntKind.i64.wrap (x2 + (qc y12.fName : Int)))), (4, .int .i64 x3), (5, .int .i64 x23)] : List (Nat × AV)) ∧ τ = ([.cells 0 (encGSchema a0)] : Store) ∧ y12.fFields = p25 ++ q25 ∧ x23 = (qc p25 : Int) ∧ zD.l25 x2 x3 (zD.l6 a0 k6) y12 q25 x23 = some r) _ ⟨[], y12.fFields, 0, rfl, rfl, rfl, rfl, rfl, h⟩ .s ?_
   rintro m L τ ⟨p25, q25, x23, rfl, rfl, rfl, hE25, hi25, h⟩
   rcases q25 with _ | ⟨y25, q25⟩
   · have hz25 := yz hE25 hi25
     simp only [zD.l25] at h
     refine zd fun Z26 hZ26 => ?_
     have f27 := E27.idxS hy12
     have f28 := E27.fldS (f := 23) rfl rfl hy12 (o := 1) (by decide)
     refine rg tok [1, 3, 4, 5, 59] fun K hK => ?_
     simp only [go_sem, qb, qa, qd, encGMessage, hz25, f27, f28]
     apply hK
     refine zz rfl ?_
     refine zM ?_
     apply hZ11
     refine rgE tok [1, 3, 4] fun K hK => ?_
     simp only [go_sem, qb, qa]
     apply hK
     exact ⟨_, _, _, qu (0 + k6), ⟨k6, IntKind.i64.wrap (x2 + (qc y12.fName : Int)), IntKind.i64.wrap (x3 + 1), rfl, rfl, rfl, h⟩, .s⟩
   obtain ⟨hz25, hw25, hx25, hE'25, hi'25⟩ := yg hE25 hi25 hb25
   simp only [zD.l25] at h
   refine zd fun Z29 hZ29 => ?_
   have f30 := E27.idxS hy12
   have f31 := E27.fldS (f := 23) rfl rfl hy12 (o := 1) (by decide)
   refine rg tok [1, 3, 4, 5, 59] fun K hK => ?_
   simp only [go_sem, qb, qa, qd, encGMessage, hz25, f30, f31]
   apply hK
   refine zB rfl ?_
   refine zh ?_
   apply hZ29
   refine zd fun Z32 hZ32 => ?_
   refine zk ?_
   have f33 := E27.idxS hy12
   have f34 := E27.fldS (f := 23) rfl rfl hy12 (o := 1) (by decide)
   have f35 := E23.idxS hx25
   have f36 := E23.loadS rfl rfl hx25
   refine rg tok [1, 3, 4, 5, 6] fun K hK => ?_
   simp only [go_sem, qb, qe, qa, qd, encGField, encGMessage, f33, f34, f35, f36]
   apply hK
   refine rc [1, 3, 4, 5, 81] fun K hK => ?_
   refine zb tok 5 ?_
   simp only [go_sem, qb, qa, qd]
   refine zo 6 (fun L τ => L = ([(1, .op 0 0 0), (3, .int .i64 (IntKind.i64.wrap (x2 + (qc y12.fName : Int)))), (4, .int .i64 x3), (5, .int .i64 x23), (81, .bool ((decide (200 < (qc y25.fName : Int))) || (decide (200 < (qc y25.fType.fName : Int)))))] : List (Nat × AV)) ∧ τ = ([.cells 0 (encGSchema a0), .cells 0 (encGField y25)] : Store)) ?_ ?_
   · refine yN 75 rfl (fun hg75 => ?_) (fun hg75 => ?_)
     · have t37 := eq_true hg75
       refine zb tok 6 ?_
       simp only [go_sem, qb, qa]
       refine za ⟨rfl, _, _, ⟨rfl, rfl⟩, .p t37⟩
     have t38 := eq_false hg75
     refine zb tok 6 ?_
     simp only [go_sem, qb, qa, qd]
     refine za ⟨rfl, _, _, ⟨rfl, rfl⟩, .p t38⟩
   rintro _ _ ⟨rfl, rfl⟩
   refine za ?_
   simp only [ze, qa, reduceIte, zl, zq]
   apply hK
   refine zv (b := ((decide (200 < (qc y25.fName : Int))) || (decide (200 < (qc y25.fType.fName : Int))))) rfl (fun hc39 => ?_) (fun hc39 => ?_)
   · rw [if_pos hc39] at h
     refine rg tok [2] fun K hK => ?_
     simp only [go_sem, qb, qa]
     apply hK
     refine zj ?_
     obtain rfl := Option.some.inj h
     exact yr
   rw [xD hc39] at h
   refine zh ?_
   apply hZ32
   refine rgE tok [1, 3, 4, 5] fun K hK => ?_
   simp only [go_sem, qb, qa, hw25]
   apply hK
   exact ⟨_, _, _, qu q25.length, ⟨p25 ++ [y25], q25, x23 + 1, rfl, rfl, rfl, hE'25, hi'25, h⟩, (.t [0] false)⟩
 rw [xD hc10] at h
 refine zM ?_
 apply hZ1
 refine zd fun Z40 hZ40 => ?_
 refine rg tok [1, 3, 7] fun K hK => ?_
 simp only [go_sem, qb, qa]
 apply hK
 refine zk ?_
 refine zF (fun m L τ => ∃ (k43 : Nat) (x41 : Int), m = 0 + k43 ∧ L = ([(1, .op 0 0 0), (3, .int .i64 x2), (7, .int .i64 x41)] : List (Nat × AV)) ∧ τ = ([.cells 0 (encGSchema a0)] : Store) ∧ zD.l43 a0 x2 k43 x41 = some r) _ ⟨rounds, 0, rfl, rfl, rfl, h⟩ .s ?_
 rintro m L τ ⟨k43, x41, rfl, rfl, rfl, h⟩
 rcases k43 with _ | k43
 · cases h
 simp only [zD.l43] at h
 refine zd fun Z44 hZ44 => ?_
 refine rc [1, 3, 7, 90] fun K hK => ?_
 refine zb tok 6 ?_
 simp only [go_sem, qb, qa, qd]
 refine zo 3 (fun L τ => L = ([(1, .op 0 0 0), (3, .int .i64 x2), (7, .int .i64 x41), (90, .bool ((decide (x41 < (qc a0.fEnums : Int))) && (decide (x41 < 20))))] : List (Nat × AV)) ∧ τ = ([.cells 0 (encGSchema a0)] : Store)) ?_ ?_
 · refine yN 87 rfl (fun hg87 => ?_) (fun hg87 => ?_)
   · have t45 := eq_true hg87
     refine zb tok 3 ?_
     simp only [go_sem, qb, qa]
     refine za ⟨rfl, _, _, ⟨rfl, rfl⟩, .p t45⟩
   have t46 := eq_false hg87
   refine zb tok 3 ?_
   simp only [go_sem, qb, qa]
   refine za ⟨rfl, _, _, ⟨rfl, rfl⟩, .p t46⟩
 rintro _ _ ⟨rfl, rfl⟩
 refine za ?_
 simp only [ze, qa, reduceIte, zl, zq]
 apply hK
 refine zv (b := ((decide (x41 < (qc a0.fEnums : Int))) && (decide (x41 < 20)))) rfl (fun hc47 => ?_) (fun hc47 => ?_)
 · rw [if_pos hc47] at h
   refine zh ?_
   apply hZ44
   refine zd fun Z48 hZ48 => ?_
   refine zk ?_
   refine zd fun Z49 hZ49 => ?_
   refine rc [1, 3, 7, 110] fun K hK => ?_
   obtain ⟨y50, hy50, h⟩ := bind_some h
   have f51 := E28.idxS hy50
   have f52 := E28.fldS0 (f := 9) rfl rfl hy50
   refine zb tok 9 ?_
   simp only [go_sem, qb, qa, qd, encGEnumeration, f51, f52]
   refine zo 9 (fun L τ => L = ([(1, .op 0 0 0), (3, .int .i64 x2), (7, .int .i64 x41), (110, .bool ((decide (200 < (qc y50.fName : Int))) || (decide (24 < (qc y50.fValues : Int)))))] : List (Nat × AV)) ∧ τ = ([.cells 0 (encGSchema a0)] : Store)) ?_ ?_
   · refine yN 101 rfl (fun hg101 => ?_) (fun hg101 => ?_)
     · have t53 := eq_true hg101
       refine zb tok 9 ?_
       simp only [go_sem, qb, qa]
       refine za ⟨rfl, _, _, ⟨rfl, rfl⟩, .p t53⟩
     have t54 := eq_false hg101
     have f55 := E28.idxS hy50
     have f56 := E28.fldS (f := 88) rfl rfl hy50 (o := 1) (by decide)
     refine zb tok 9 ?_
     simp only [go_sem, qb, qa, qd, encGEnumeration, f55, f56]
     refine za ⟨rfl, _, _, ⟨rfl, rfl⟩, .p t54⟩
   rintro _ _ ⟨rfl, rfl⟩
   refine za ?_
   simp only [ze, qa, reduceIte, zl, zq]
   apply hK
   refine zv (b := ((decide (200 < (qc y50.fName : Int))) || (decide (24 < (qc y50.fValues : Int))))) rfl (fun hc57 => ?_) (fun hc57 => ?_)
   · rw [if_pos hc57] at h
     refine rg tok [2] fun K hK => ?_
     simp only [go_sem, qb, qa]
     apply hK
     refine zj ?_
     obtain rfl := Option.some.inj h
     exact yr
   rw [xD hc57] at h
   refine zh ?_
   apply hZ49
   refine rg tok [1, 3, 7, 8] fun K hK => ?_
   simp only [go_sem, qb, qa]
   apply hK
   refine zk ?_
   refine xJ 0 rfl fun hb60 => ?_
   replace hb60 := deepL_idx hb60.2.2.1.2 hy50
   replace hb60 : qc y50.fValues ≤ 9223372036854775807 := hb60.2.1.1
   refine zF (fun m L τ => ∃ (p60 q60 : List GNamed) (x58 : Int), m = qc q60 ∧ L = ([(1, .op 0 0 0), (3, .int .i64 x2), (7, .int .i64 x41), (8, .int .i64 x58)] : List (Nat × AV)) ∧ τ = ([.cells 0 (encGSchema a0)] : Store) ∧ y50.fValues = p60 ++ q60 ∧ x58 = (qc p60 : Int) ∧ zD.l60 x41 (zD.l43 a0 x2 k43) q60 x58 = some r) _ ⟨[], y50.fValues, 0, rfl, rfl, rfl, rfl, rfl, h⟩ .s ?_
   rintro m L τ ⟨p60, q60, x58, rfl, rfl, rfl, hE60, hi60, h⟩
   rcases q60 with _ | ⟨y60, q60⟩
   · have hz60 := yz hE60 hi60
     simp only [zD.l60] at h
     refine zd fun Z61 hZ61 => ?_
     have f62 := E28.idxS hy50
     have f63 := E28.fldS (f := 88) rfl rfl hy50 (o := 1) (by decide)
     refine rg tok [1, 3, 7, 8, 119] fun K hK => ?_
     simp only [go_sem, qb, qa, qd, encGEnumeration, hz60, f62, f63]
     apply hK
     refine zz rfl ?_
     refine zM ?_
     apply hZ48
     refine rgE tok [1, 3, 7] fun K hK => ?_
     simp only [go_sem, qb, qa]
     apply hK
     exact ⟨_, _, _, qu (0 + k43), ⟨k43, IntKind.i64.wrap (x41 + 1), rfl, rfl, rfl, h⟩, .s⟩
   obtain ⟨hz60, hw60, hx60, hE'60, hi'60⟩ := yg hE60 hi60 hb60
   simp only [zD.l60] at h
   refine zd fun Z64 hZ64 => ?_
   have f65 := E28.idxS hy50
   have f66 := E28.fldS (f := 88) rfl rfl hy50 (o := 1) (by decide)
   refine rg tok [1, 3, 7, 8, 119] fun K hK => ?_
   simp only [go_sem, qb, qa, qd, encGEnumeration, hz60, f65, f66]
   apply hK
   refine zB rfl ?_
   refine zh ?_
   apply hZ64
   refine zd fun Z67 hZ67 => ?_
   refine zk ?_
   have f68 := E28.idxS hy50
   have f69 := E28.fldS (f := 88) rfl rfl hy50 (o := 1) (by decide)
   have f70 := E88.idxS hx60
   have f71 := E88.fldS0 (f := 9) rfl rfl hx60
   refine rg tok [1, 3, 7, 8, 133] fun K hK => ?_
   simp only [go_sem, qb, qa, qd, encGEnumeration, encGNamed, f68, f69, f70, f71]
   apply hK
   refine zI rfl (fun hc72 => ?_) (fun hc72 => ?_)
   · rw [if_pos hc72] at h
     have t73 := eq_true hc72
     refine rg tok [2] fun K hK => ?_
     simp only [go_sem, qb, qa, t73]
     apply hK
     refine zj ?_
     obtain rfl := Option.some.inj h
     exact yr
   rw [if_neg hc72] at h
   have t74 := eq_false hc72
   refine zh ?_
   apply hZ67
   refine rgE tok [1, 3, 7, 8] fun K hK => ?_
   simp only [go_sem, qb, qa, hw60, t74]
   apply hK
   exact ⟨_, _, _, qu q60.length, ⟨p60 ++ [y60], q60, x58 + 1, rfl, rfl, rfl, hE'60, hi'60, h⟩, .s⟩
 rw [xD hc47] at h
 refine zM ?_
 apply hZ40
 refine zd fun Z75 hZ75 => ?_
 refine rg tok [1, 3, 9] fun K hK => ?_
 simp only [go_sem, qb, qa]
 apply hK
 refine zk ?_
 refine zF (fun m L τ => ∃ (k78 : Nat) (x76 : Int), m = 0 + k78 ∧ L = ([(1, .op 0 0 0), (3, .int .i64 x2), (9, .int .i64 x76)] : List (Nat × AV)) ∧ τ = ([.cells 0 (encGSchema a0)] : Store) ∧ zD.l78 a0 x2 k78 x76 = some r) _ ⟨rounds, 0, rfl, rfl, rfl, h⟩ .s ?_
 rintro m L τ ⟨k78, x76, rfl, rfl, rfl, h⟩
 rcases k78 with _ | k78
 · cases h
 simp only [zD.l78] at h
 refine zd fun Z79 hZ79 => ?_
 refine rc [1, 3, 9, 142] fun K hK => ?_
 refine zb tok 6 ?_
 simp only [go_sem, qb, qa, qd]
 refine zo 3 (fun L τ => L = ([(1, .op 0 0 0), (3, .int .i64 x2), (9, .int .i64 x76), (142, .bool ((decide (x76 < (qc a0.fMethods : Int))) && (decide (x76 < 20))))] : List (Nat × AV)) ∧ τ = ([.cells 0 (encGSchema a0)] : Store)) ?_ ?_
 · refine yN 139 rfl (fun hg139 => ?_) (fun hg139 => ?_)
   · have t80 := eq_true hg139
     refine zb tok 3 ?_
     simp only [go_sem, qb, qa]
     refine za ⟨rfl, _, _, ⟨rfl, rfl⟩, .p t80⟩
   have t81 := eq_false hg139
   refine zb tok 3 ?_
   simp only [go_sem, qb, qa]
   refine za ⟨rfl, _, _, ⟨rfl, rfl⟩, .p t81⟩
 rintro _ _ ⟨rfl, rfl⟩
 refine za ?_
 simp only [ze, qa, reduceIte, zl, zq]
 apply hK
 refine zv (b := ((decide (x76 < (qc a0.fMethods : Int))) && (decide (x76 < 20)))) rfl (fun hc82 => ?_) (fun hc82 => ?_)
 · rw [if_pos hc82] at h
   refine zh ?_
   apply hZ79
   refine zd fun Z83 hZ83 => ?_
   refine zk ?_
   refine rc [1, 3, 9, 172] fun K hK => ?_
   obtain ⟨y84, hy84, h⟩ := bind_some h
   have f85 := E29.idxS hy84
   have f86 := E29.fldS0 (f := 9) rfl rfl hy84
   refine zb tok 9 ?_
   simp only [go_sem, qb, qa, qd, encGMethod, f85, f86]
   refine zo 9 (fun L τ => L = ([(1, .op 0 0 0), (3, .int .i64 x2), (9, .int .i64 x76), (162, .bool ((decide (200 < (qc y84.fName : Int))) || (decide (200 < (qc y84.fIn : Int)))))] : List (Nat × AV)) ∧ τ = ([.cells 0 (encGSchema a0)] : Store)) ?_ ?_
   · refine yN 153 rfl (fun hg153 => ?_) (fun hg153 => ?_)
     · have t87 := eq_true hg153
       refine zb tok 9 ?_
       simp only [go_sem, qb, qa]
       refine za ⟨rfl, _, _, ⟨rfl, rfl⟩, .p t87⟩
     have t88 := eq_false hg153
     have f89 := E29.idxS hy84
     have f90 := E29.fldS (f := 9) rfl rfl hy84 (o := 1) (by decide)
     refine zb tok 9 ?_
     simp only [go_sem, qb, qa, qd, encGMethod, f89, f90]
     refine za ⟨rfl, _, _, ⟨rfl, rfl⟩, .p t88⟩
   rintro _ _ ⟨rfl, rfl⟩
   refine zb tok 1 ?_
   simp only [go_sem, qb, qa]
   refine zo 9 (fun L τ => L = ([(1, .op 0 0 0), (3, .int .i64 x2), (9, .int .i64 x76), (172, .bool (((decide (200 < (qc y84.fName : Int))) || (decide (200 < (qc y84.fIn : Int)))) || (decide (200 < (qc y84.fOut : Int)))))] : List (Nat × AV)) ∧ τ = ([.cells 0 (encGSchema a0)] : Store)) ?_ ?_
   · refine zQ (b := ((decide (200 < (qc y84.fName : Int))) || (decide (200 < (qc y84.fIn : Int))))) 163 rfl (fun hg163 => ?_) (fun hg163 => ?_)
     · refine zb tok 9 ?_
       simp only [go_sem, qb, qa]
       refine za ⟨rfl, _, _, ⟨rfl, rfl⟩, .b hg163⟩
     have f91 := E29.idxS hy84
     have f92 := E29.fldS (f := 9) rfl rfl hy84 (o := 2) (by decide)
     refine zb tok 9 ?_
     simp only [go_sem, qb, qa, qd, encGMethod, f91, f92]
     refine za ⟨rfl, _, _, ⟨rfl, rfl⟩, .b hg163⟩
   rintro _ _ ⟨rfl, rfl⟩
   refine za ?_
   simp only [ze, qa, reduceIte, zl, zq]
   apply hK
   refine zv (b := (((decide (200 < (qc y84.fName : Int))) || (decide (200 < (qc y84.fIn : Int)))) || (decide (200 < (qc y84.fOut : Int))))) rfl (fun hc93 => ?_) (fun hc93 => ?_)
   · rw [if_pos hc93] at h
     refine rg tok [2] fun K hK => ?_
     simp only [go_sem, qb, qa]
     apply hK
     refine zj ?_
     obtain rfl := Option.some.inj h
     exact yr
   rw [xD hc93] at h
   refine zh ?_
   apply hZ83
   refine rgE tok [1, 3, 9] fun K hK => ?_
   simp only [go_sem, qb, qa]
   apply hK
   exact ⟨_, _, _, qu (0 + k78), ⟨k78, IntKind.i64.wrap (x76 + 1), rfl, rfl, rfl, h⟩, .s⟩
 rw [xD hc82] at h
 refine zM ?_
 apply hZ75
 refine rc [2] fun K hK => ?_
 refine zb tok 3 ?_
 simp only [go_sem, qb, qa]
 refine zo 5 (fun L τ => L = ([(1, .op 0 0 0), (180, .bool ((decide (x2 < 3000)) && (decide ((qc a0.fMessages : Int) ≤ 14))))] : List (Nat × AV)) ∧ τ = ([.cells 0 (encGSchema a0)] : Store)) ?_ ?_
 · refine yN 175 rfl (fun hg175 => ?_) (fun hg175 => ?_)
   · have t94 := eq_true hg175
     refine zb tok 5 ?_
     simp only [go_sem, qb, qa, qd]
     refine za ⟨rfl, _, _, ⟨rfl, rfl⟩, .p t94⟩
   have t95 := eq_false hg175
   refine zb tok 5 ?_
   simp only [go_sem, qb, qa]
   refine za ⟨rfl, _, _, ⟨rfl, rfl⟩, .p t95⟩
 rintro _ _ ⟨rfl, rfl⟩
 refine zb tok 1 ?_
 simp only [go_sem, qb, qa]
 refine zo 5 (fun L τ => L = ([(1, .op 0 0 0), (186, .bool (((decide (x2 < 3000)) && (decide ((qc a0.fMessages : Int) ≤ 14))) && (decide ((qc a0.fEnums : Int) ≤ 10))))] : List (Nat × AV)) ∧ τ = ([.cells 0 (encGSchema a0)] : Store)) ?_ ?_
 · refine zQ (b := ((decide (x2 < 3000)) && (decide ((qc a0.fMessages : Int) ≤ 14)))) 181 rfl (fun hg181 => ?_) (fun hg181 => ?_)
   · refine zb tok 5 ?_
     simp only [go_sem, qb, qa, qd]
     refine za ⟨rfl, _, _, ⟨rfl, rfl⟩, .b hg181⟩
   refine zb tok 5 ?_
   simp only [go_sem, qb, qa]
   refine za ⟨rfl, _, _, ⟨rfl, rfl⟩, .b hg181⟩
 rintro _ _ ⟨rfl, rfl⟩
 refine zb tok 1 ?_
 simp only [go_sem, qb, qa]
 refine zo 5 (fun L τ => L = ([(192, .bool ((((decide (x2 < 3000)) && (decide ((qc a0.fMessages : Int) ≤ 14))) && (decide ((qc a0.fEnums : Int) ≤ 10))) && (decide ((qc a0.fMethods : Int) ≤ 10))))] : List (Nat × AV)) ∧ τ = ([.cells 0 (encGSchema a0)] : Store)) ?_ ?_
 · refine zQ (b := (((decide (x2 < 3000)) && (decide ((qc a0.fMessages : Int) ≤ 14))) && (decide ((qc a0.fEnums : Int) ≤ 10)))) 187 rfl (fun hg187 => ?_) (fun hg187 => ?_)
   · refine zb tok 5 ?_
     simp only [go_sem, qb, qa, qd]
     refine za ⟨rfl, _, _, ⟨rfl, rfl⟩, .b hg187⟩
   refine zb tok 5 ?_
   simp only [go_sem, qb, qa]
   refine za ⟨rfl, _, _, ⟨rfl, rfl⟩, .b hg187⟩
 rintro _ _ ⟨rfl, rfl⟩
 refine zb tok 1 ?_
 simp only [go_sem, qb]
 refine za ?_
 simp only [ze, upd, qa, reduceIte, zl, zq]
 apply hK
 refine zj ?_
 obtain rfl := Option.some.inj h
 exact yr
theorem zD.ev (a0 : GSchema) (r : Bool) (h : zD a0 = some r) (σ : Store) : ACalls qh 22 [.agg (encGSchema a0)] σ (fun r' σ' => r' = .bool r ∧ σ' = σ) :=
 (zD.ok a0 r h).c σ
def ww (a0 : List UInt8) (a1 : Int) : Option Int :=
 (if (qc a0 : Int) ≤ a1 then some true else (Zj a0 a1).bind fun b2 => some (decide ((b2.toNat : Int) < 128))).bind fun c2 => (if c2 = true then some true else (Zj a0 a1).bind fun b7 => some (decide (191 < (b7.toNat : Int)))).bind fun c7 => (if c7 = true then some (-1) else (Zj a0 a1).bind fun b11 => some (IntKind.i64.wrap ((IntKind.i64.wrap (b11.toNat : Int)) - 128)))
theorem ww.ok (a0 : List UInt8) (a1 : Int) (r : Int) (h : ww a0 a1 = some r) : ACalls qh 119 [.str a0, .int .i64 a1] [] (fun r' _ => r' = .int .i64 r) := by
 refine zn (rs := [.tmp 4]) tok Tryd.func119 rfl Tryd.ntmps119 rfl Tryd.call119 (by simp) ?_
 refine zt [(0, .str a0), (1, .int .i64 a1)] ⟨rfl, rfl, trivial⟩ ?_
 unfold ww at h
 refine rg tok [0, 1] fun K hK => ?_
 simp only [go_sem, qb, qa, reduceCtorEq]
 apply hK
 refine zd fun Z1 hZ1 => ?_
 refine rc [0, 1, 20] fun K hK => ?_
 refine zb tok 5 ?_
 simp only [go_sem, qb, qa, reduceCtorEq]
 obtain ⟨c2, hc2, h⟩ := bind_some h
 refine zo 5 (fun L τ => L = ([(0, .str a0), (1, .int .i64 a1), (14, .bool c2)] : List (Nat × AV)) ∧ τ = ([] : Store)) ?_ ?_
 · refine yN 9 rfl (fun hg9 => ?_) (fun hg9 => ?_)
   · have t3 := eq_true hg9
     rw [if_pos hg9] at hc2
     refine zb tok 5 ?_
     simp only [go_sem, qb, qa, reduceCtorEq]
     obtain rfl := Option.some.inj hc2
     refine za ⟨rfl, _, _, ⟨rfl, rfl⟩, .p t3⟩
   have t4 := eq_false hg9
   rw [if_neg hg9] at hc2
   obtain ⟨b5, hb5, hc2⟩ := bind_some hc2
   have f6 := idx_str (T := tab) (t := 9) rfl rfl hb5
   refine zb tok 5 ?_
   simp only [go_sem, qb, qa, reduceCtorEq, f6]
   obtain rfl := Option.some.inj hc2
   refine za ⟨rfl, _, _, ⟨rfl, rfl⟩, .p t4⟩
 rintro _ _ ⟨rfl, rfl⟩
 refine zb tok 1 ?_
 simp only [go_sem, qb, qa, reduceCtorEq]
 obtain ⟨c7, hc7, h⟩ := bind_some h
 refine zo 5 (fun L τ => L = ([(0, .str a0), (1, .int .i64 a1), (20, .bool c7)] : List (Nat × AV)) ∧ τ = ([] : Store)) ?_ ?_
 · refine zQ (b := c2) 15 rfl (fun hg15 => ?_) (fun hg15 => ?_)
   · rw [if_pos hg15] at hc7
     refine zb tok 5 ?_
     simp only [go_sem, qb, qa, reduceCtorEq]
     obtain rfl := Option.some.inj hc7
     refine za ⟨rfl, _, _, ⟨rfl, rfl⟩, .b hg15⟩
   rw [xD hg15] at hc7
   obtain ⟨b8, hb8, hc7⟩ := bind_some hc7
   have f9 := idx_str (T := tab) (t := 9) rfl rfl hb8
   refine zb tok 5 ?_
   simp only [go_sem, qb, qa, reduceCtorEq, f9]
   obtain rfl := Option.some.inj hc7
   refine za ⟨rfl, _, _, ⟨rfl, rfl⟩, .b hg15⟩
 rintro _ _ ⟨rfl, rfl⟩
 refine za ?_
 simp only [ze, qa, reduceIte, zl, zq]
 apply hK
 refine zv (b := c7) rfl (fun hc10 => ?_) (fun hc10 => ?_)
 · rw [if_pos hc10] at h
   refine rg tok [4] fun K hK => ?_
   simp only [go_sem, qb, qa, reduceCtorEq]
   apply hK
   refine zj ?_
   obtain rfl := Option.some.inj h
   exact yr
 rw [xD hc10] at h
 refine zh ?_
 apply hZ1
 obtain ⟨b11, hb11, h⟩ := bind_some h
 have f12 := idx_str (T := tab) (t := 9) rfl rfl hb11
 have f13 := xv (T := tab) (src := 5) (dst := 3) rfl rfl rfl
 refine rg tok [4] fun K hK => ?_
 simp only [go_sem, qb, qa, reduceCtorEq, f12, f13]
 apply hK
 refine zj ?_
 obtain rfl := Option.some.inj h
 exact yr
theorem ww.ev (a0 : List UInt8) (a1 : Int) (r : Int) (h : ww a0 a1 = some r) (σ : Store) : ACalls qh 119 [.str a0, .int .i64 a1] σ (fun r' σ' => r' = .int .i64 r ∧ σ' = σ) :=
 (ww.ok a0 a1 r h).c σ
def yl.l17 (a0 : List UInt8) (a1 : Int) (x8 : Int) (x10 : Int) : Nat → Int → Int → Option (Int × Int × Bool)
 | 0, _, _ => none
 | k17 + 1, x13, x14 => (if x14 < x8 then (ww a0 (IntKind.i64.wrap (a1 + x14))).bind fun r22 => (if r22 < 0 then some (0, 0, false) else ((yl.l17 a0 a1 x8 x10 k17) (IntKind.i64.wrap ((IntKind.i64.wrap (64 * x13)) + r22)) (IntKind.i64.wrap (x14 + 1)))) else (if (((decide (x13 < x10)) || (decide (1114111 < x13))) || ((decide (55296 ≤ x13)) && (decide (x13 ≤ 57343)))) = true then some (0, 0, false) else some (IntKind.i32.wrap x13, x8, true)))
def yl.j11 (a0 : List UInt8) (a1 : Int) (x8 : Int) (x9 : Int) (x10 : Int) : Option (Int × Int × Bool) :=
 (yl.l17 a0 a1 x8 x10 rounds x9 1)
def yl (a0 : List UInt8) (a1 : Int) : Option (Int × Int × Bool) :=
 (if ((decide (a1 < 0)) || (decide ((qc a0 : Int) ≤ a1))) = true then some (0, 0, false) else (Zj a0 a1).bind fun b5 => (if IntKind.i64.wrap (b5.toNat : Int) < 128 then some (IntKind.i32.wrap (IntKind.i64.wrap (b5.toNat : Int)), 1, true) else (if ((decide (192 ≤ IntKind.i64.wrap (b5.toNat : Int))) && (decide (IntKind.i64.wrap (b5.toNat : Int) < 224))) = true then (yl.j11 a0 a1 2 (IntKind.i64.wrap ((IntKind.i64.wrap (b5.toNat : Int)) - 192)) 128) else (if ((decide (224 ≤ IntKind.i64.wrap (b5.toNat : Int))) && (decide (IntKind.i64.wrap (b5.toNat : Int) < 240))) = true then (yl.j11 a0 a1 3 (IntKind.i64.wrap ((IntKind.i64.wrap (b5.toNat : Int)) - 224)) 2048) else (if ((decide (240 ≤ IntKind.i64.wrap (b5.toNat : Int))) && (decide (IntKind.i64.wrap (b5.toNat : Int) < 248))) = true then (yl.j11 a0 a1 4 (IntKind.i64.wrap ((IntKind.i64.wrap (b5.toNat : Int)) - 240)) 65536) else some (0, 0, false))))))
theorem yl.ok (a0 : List UInt8) (a1 : Int) (r : Int × Int × Bool) (h : yl a0 a1 = some r) : ACalls qh 95 [.str a0, .int .i64 a1] [] (fun r' _ => r' = .tup [.int .i32 r.1, .int .i64 r.2.1, .bool r.2.2]) := by
 refine zn (rs := [.tmp 4, .tmp 5, .tmp 6]) tok Tryd.func95 rfl Tryd.ntmps95 rfl Tryd.call95 (by simp) ?_
 refine zt [(0, .str a0), (1, .int .i64 a1)] ⟨rfl, rfl, trivial⟩ ?_
 unfold yl at h
 refine rg tok [0, 1] fun K hK => ?_
 simp only [go_sem, qb, qa, reduceCtorEq]
 apply hK
 refine zd fun Z1 hZ1 => ?_
 refine rc [0, 1, 20] fun K hK => ?_
 refine zb tok 3 ?_
 simp only [go_sem, qb, qa, reduceCtorEq]
 refine zo 5 (fun L τ => L = ([(0, .str a0), (1, .int .i64 a1), (20, .bool ((decide (a1 < 0)) || (decide ((qc a0 : Int) ≤ a1))))] : List (Nat × AV)) ∧ τ = ([] : Store)) ?_ ?_
 · refine yN 15 rfl (fun hg15 => ?_) (fun hg15 => ?_)
   · have t2 := eq_true hg15
     refine zb tok 5 ?_
     simp only [go_sem, qb, qa, reduceCtorEq]
     refine za ⟨rfl, _, _, ⟨rfl, rfl⟩, .p t2⟩
   have t3 := eq_false hg15
   refine zb tok 5 ?_
   simp only [go_sem, qb, qa, reduceCtorEq]
   refine za ⟨rfl, _, _, ⟨rfl, rfl⟩, .p t3⟩
 rintro _ _ ⟨rfl, rfl⟩
 refine za ?_
 simp only [ze, qa, reduceIte, zl, zq]
 apply hK
 refine zv (b := ((decide (a1 < 0)) || (decide ((qc a0 : Int) ≤ a1)))) rfl (fun hc4 => ?_) (fun hc4 => ?_)
 · rw [if_pos hc4] at h
   refine rg tok [4, 5, 6] fun K hK => ?_
   simp only [go_sem, qb, qa, reduceCtorEq]
   apply hK
   refine zj ?_
   obtain rfl := Option.some.inj h
   exact yr
 rw [xD hc4] at h
 refine zh ?_
 apply hZ1
 obtain ⟨b5, hb5, h⟩ := bind_some h
 have f6 := idx_str (T := tab) (t := 9) rfl rfl hb5
 have f7 := xv (T := tab) (src := 5) (dst := 3) rfl rfl rfl
 refine rg tok [0, 1, 7] fun K hK => ?_
 simp only [go_sem, qb, qa, reduceCtorEq, f6, f7]
 apply hK
 refine rg tok [0, 1, 7] fun K hK => ?_
 simp only [go_sem, qb, qa, reduceCtorEq]
 apply hK
 refine xK (fun L τ => ∃ (x8 : Int) (x9 : Int) (x10 : Int), L = ([(0, .str a0), (1, .int .i64 a1), (8, .int .i64 x8), (9, .int .i64 x9), (10, .int .i64 x10)] : List (Nat × AV)) ∧ τ = ([] : Store) ∧ yl.j11 a0 a1 x8 x9 x10 = some r) ?_ ?_
 · refine zk ?_
   refine rg tok [0, 1, 7, 26] fun K hK => ?_
   simp only [go_sem, qb, qa, reduceCtorEq]
   apply hK
   refine zI rfl (fun hc35 => ?_) (fun hc35 => ?_)
   · rw [if_pos hc35] at h
     have t36 := eq_true hc35
     have f37 := xv (T := tab) (src := 3) (dst := 21) rfl rfl rfl
     refine rg tok [4, 5, 6] fun K hK => ?_
     simp only [go_sem, qb, qa, reduceCtorEq, t36, f37]
     apply hK
     refine zj ?_
     obtain rfl := Option.some.inj h
     exact yr
   rw [if_neg hc35] at h
   have t38 := eq_false hc35
   refine rc [0, 1, 7, 31] fun K hK => ?_
   refine zb tok 3 ?_
   simp only [go_sem, qb, qa, reduceCtorEq, t38]
   refine zo 3 (fun L τ => L = ([(0, .str a0), (1, .int .i64 a1), (7, .int .i64 (IntKind.i64.wrap (b5.toNat : Int))), (37, .bool ((decide (192 ≤ IntKind.i64.wrap (b5.toNat : Int))) && (decide (IntKind.i64.wrap (b5.toNat : Int) < 224))))] : List (Nat × AV)) ∧ τ = ([] : Store)) ?_ ?_
   · refine yN 34 rfl (fun hg34 => ?_) (fun hg34 => ?_)
     · have t39 := eq_true hg34
       refine zb tok 3 ?_
       simp only [go_sem, qb, qa, reduceCtorEq]
       refine za ⟨rfl, _, _, ⟨rfl, rfl⟩, .p t39⟩
     have t40 := eq_false hg34
     refine zb tok 3 ?_
     simp only [go_sem, qb, qa, reduceCtorEq]
     refine za ⟨rfl, _, _, ⟨rfl, rfl⟩, .p t40⟩
   rintro _ _ ⟨rfl, rfl⟩
   refine zb tok 1 ?_
   simp only [go_sem, qb, qa, reduceCtorEq]
   refine za ?_
   simp only [ze, upd, qa, reduceIte, zl, zq]
   apply hK
   refine zv (b := ((decide (192 ≤ IntKind.i64.wrap (b5.toNat : Int))) && (decide (IntKind.i64.wrap (b5.toNat : Int) < 224)))) rfl (fun hc41 => ?_) (fun hc41 => ?_)
   · rw [if_pos hc41] at h
     refine rgE tok [0, 1, 8, 9, 10] fun K hK => ?_
     simp only [go_sem, qb, qa, reduceCtorEq]
     apply hK
     exact ⟨_, _, ⟨2, IntKind.i64.wrap ((IntKind.i64.wrap (b5.toNat : Int)) - 192), 128, rfl, rfl, h⟩, .s⟩
   rw [xD hc41] at h
   refine rc [0, 1, 7, 40] fun K hK => ?_
   refine zb tok 3 ?_
   simp only [go_sem, qb, qa, reduceCtorEq]
   refine zo 3 (fun L τ => L = ([(0, .str a0), (1, .int .i64 a1), (7, .int .i64 (IntKind.i64.wrap (b5.toNat : Int))), (46, .bool ((decide (224 ≤ IntKind.i64.wrap (b5.toNat : Int))) && (decide (IntKind.i64.wrap (b5.toNat : Int) < 240))))] : List (Nat × AV)) ∧ τ = ([] : Store)) ?_ ?_
   · refine yN 43 rfl (fun hg43 => ?_) (fun hg43 => ?_)
     · have t42 := eq_true hg43
       refine zb tok 3 ?_
       simp only [go_sem, qb, qa, reduceCtorEq]
       refine za ⟨rfl, _, _, ⟨rfl, rfl⟩, .p t42⟩
     have t43 := eq_false hg43
     refine zb tok 3 ?_
     simp only [go_sem, qb, qa, reduceCtorEq]
     refine za ⟨rfl, _, _, ⟨rfl, rfl⟩, .p t43⟩
   rintro _ _ ⟨rfl, rfl⟩
   refine zb tok 1 ?_
   simp only [go_sem, qb, qa, reduceCtorEq]
   refine za ?_
   simp only [ze, upd, qa, reduceIte, zl, zq]
   apply hK
   refine zv (b := ((decide (224 ≤ IntKind.i64.wrap (b5.toNat : Int))) && (decide (IntKind.i64.wrap (b5.toNat : Int) < 240)))) rfl (fun hc44 => ?_) (fun hc44 => ?_)
   · rw [if_pos hc44] at h
     refine rgE tok [0, 1, 8, 9, 10] fun K hK => ?_
     simp only [go_sem, qb, qa, reduceCtorEq]
     apply hK
     exact ⟨_, _, ⟨3, IntKind.i64.wrap ((IntKind.i64.wrap (b5.toNat : Int)) - 224), 2048, rfl, rfl, h⟩, .s⟩
   rw [xD hc44] at h
   refine rc [0, 1, 7, 49] fun K hK => ?_
   refine zb tok 3 ?_
   simp only [go_sem, qb, qa, reduceCtorEq]
   refine zo 3 (fun L τ => L = ([(0, .str a0), (1, .int .i64 a1), (7, .int .i64 (IntKind.i64.wrap (b5.toNat : Int))), (55, .bool ((decide (240 ≤ IntKind.i64.wrap (b5.toNat : Int))) && (decide (IntKind.i64.wrap (b5.toNat : Int) < 248))))] : List (Nat × AV)) ∧ τ = ([] : Store)) ?_ ?_
   · refine yN 52 rfl (fun hg52 => ?_) (fun hg52 => ?_)
     · have t45 := eq_true hg52
       refine zb tok 3 ?_
       simp only [go_sem, qb, qa, reduceCtorEq]
       refine za ⟨rfl, _, _, ⟨rfl, rfl⟩, .p t45⟩
     have t46 := eq_false hg52
     refine zb tok 3 ?_
     simp only [go_sem, qb, qa, reduceCtorEq]
     refine za ⟨rfl, _, _, ⟨rfl, rfl⟩, .p t46⟩
   rintro _ _ ⟨rfl, rfl⟩
   refine zb tok 1 ?_
   simp only [go_sem, qb, qa, reduceCtorEq]
   refine za ?_
   simp only [ze, upd, qa, reduceIte, zl, zq]
   apply hK
   refine zv (b := ((decide (240 ≤ IntKind.i64.wrap (b5.toNat : Int))) && (decide (IntKind.i64.wrap (b5.toNat : Int) < 248)))) rfl (fun hc47 => ?_) (fun hc47 => ?_)
   · rw [if_pos hc47] at h
     refine rgE tok [0, 1, 8, 9, 10] fun K hK => ?_
     simp only [go_sem, qb, qa, reduceCtorEq]
     apply hK
     exact ⟨_, _, ⟨4, IntKind.i64.wrap ((IntKind.i64.wrap (b5.toNat : Int)) - 240), 65536, rfl, rfl, h⟩, .s⟩
   rw [xD hc47] at h
   refine rg tok [4, 5, 6] fun K hK => ?_
   simp only [go_sem, qb, qa, reduceCtorEq]
   apply hK
   refine zj ?_
   obtain rfl := Option.some.inj h
   exact yr
 rintro _ _ ⟨x8, x9, x10, rfl, rfl, h⟩
 unfold yl.j11 at h
 refine zd fun Z12 hZ12 => ?_
 refine rg tok [0, 1, 8, 9, 10, 11] fun K hK => ?_
 simp only [go_sem, qb, qa, reduceCtorEq]
 apply hK
 refine zk ?_
 refine zF (fun m L τ => ∃ (k17 : Nat) (x13 : Int) (x14 : Int), m = 0 + k17 ∧ L = ([(0, .str a0), (1, .int .i64 a1), (8, .int .i64 x8), (9, .int .i64 x13), (10, .int .i64 x10), (11, .int .i64 x14)] : List (Nat × AV)) ∧ τ = ([] : Store) ∧ yl.l17 a0 a1 x8 x10 k17 x13 x14 = some r) _ ⟨rounds, x9, 1, rfl, rfl, rfl, h⟩ .s ?_
 rintro m L τ ⟨k17, x13, x14, rfl, rfl, rfl, h⟩
 rcases k17 with _ | k17
 · cases h
 simp only [yl.l17] at h
 refine zd fun Z18 hZ18 => ?_
 refine rg tok [0, 1, 8, 9, 10, 11, 60] fun K hK => ?_
 simp only [go_sem, qb, qa, reduceCtorEq]
 apply hK
 refine zI rfl (fun hc19 => ?_) (fun hc19 => ?_)
 · rw [if_pos hc19] at h
   have t20 := eq_true hc19
   refine zh ?_
   apply hZ18
   refine zd fun Z21 hZ21 => ?_
   refine zk ?_
   refine rc [0, 1, 8, 9, 10, 11, 12] fun K hK => ?_
   obtain ⟨r22, hr22, h⟩ := bind_some h
   refine zb tok 4 ?_
   simp only [go_sem, qb, qa, reduceCtorEq, t20]
   refine zi rfl rfl rfl (ww.ev a0 (IntKind.i64.wrap (a1 + x14)) r22 hr22 _) ?_
   rintro _ _ ⟨rfl, rfl⟩
   refine zb tok 1 ?_
   simp only [go_sem, qb, qa, reduceCtorEq]
   refine za ?_
   simp only [ze, upd, qa, reduceIte, zl, zq]
   apply hK
   refine zd fun Z23 hZ23 => ?_
   refine rg tok [0, 1, 8, 9, 10, 11, 12, 69] fun K hK => ?_
   simp only [go_sem, qb, qa, reduceCtorEq]
   apply hK
   refine zI rfl (fun hc24 => ?_) (fun hc24 => ?_)
   · rw [if_pos hc24] at h
     have t25 := eq_true hc24
     refine rg tok [4, 5, 6] fun K hK => ?_
     simp only [go_sem, qb, qa, reduceCtorEq, t25]
     apply hK
     refine zj ?_
     obtain rfl := Option.some.inj h
     exact yr
   rw [if_neg hc24] at h
   have t26 := eq_false hc24
   refine zh ?_
   apply hZ23
   refine rgE tok [0, 1, 8, 9, 10, 11] fun K hK => ?_
   simp only [go_sem, qb, qa, reduceCtorEq, t26]
   apply hK
   apply hZ21
   refine rgE tok [0, 1, 8, 9, 10, 11] fun K hK => ?_
   simp only [go_sem, qb, qa, reduceCtorEq]
   apply hK
   exact ⟨_, _, _, qu (0 + k17), ⟨k17, IntKind.i64.wrap ((IntKind.i64.wrap (64 * x13)) + r22), IntKind.i64.wrap (x14 + 1), rfl, rfl, rfl, h⟩, .s⟩
 rw [if_neg hc19] at h
 have t27 := eq_false hc19
 refine zM ?_
 apply hZ12
 refine zd fun Z28 hZ28 => ?_
 refine rc [8, 9, 88] fun K hK => ?_
 refine zb tok 4 ?_
 simp only [go_sem, qb, qa, reduceCtorEq, t27]
 refine zo 3 (fun L τ => L = ([(8, .int .i64 x8), (9, .int .i64 x13), (80, .bool ((decide (x13 < x10)) || (decide (1114111 < x13))))] : List (Nat × AV)) ∧ τ = ([] : Store)) ?_ ?_
 · refine yN 77 rfl (fun hg77 => ?_) (fun hg77 => ?_)
   · have t29 := eq_true hg77
     refine zb tok 3 ?_
     simp only [go_sem, qb, qa, reduceCtorEq]
     refine za ⟨rfl, _, _, ⟨rfl, rfl⟩, .p t29⟩
   have t30 := eq_false hg77
   refine zb tok 3 ?_
   simp only [go_sem, qb, qa, reduceCtorEq]
   refine za ⟨rfl, _, _, ⟨rfl, rfl⟩, .p t30⟩
 rintro _ _ ⟨rfl, rfl⟩
 refine zb tok 1 ?_
 simp only [go_sem, qb, qa]
 refine zo 7 (fun L τ => L = ([(8, .int .i64 x8), (9, .int .i64 x13), (88, .bool (((decide (x13 < x10)) || (decide (1114111 < x13))) || ((decide (55296 ≤ x13)) && (decide (x13 ≤ 57343)))))] : List (Nat × AV)) ∧ τ = ([] : Store)) ?_ ?_
 · refine zQ (b := ((decide (x13 < x10)) || (decide (1114111 < x13)))) 81 rfl (fun hg81 => ?_) (fun hg81 => ?_)
   · refine zb tok 7 ?_
     simp only [go_sem, qb, qa]
     refine za ⟨rfl, _, _, ⟨rfl, rfl⟩, .b hg81⟩
   refine zb tok 3 ?_
   simp only [go_sem, qb, qa]
   refine zo 3 (fun L τ => L = ([(8, .int .i64 x8), (9, .int .i64 x13), (81, .bool false), (87, .bool ((decide (55296 ≤ x13)) && (decide (x13 ≤ 57343))))] : List (Nat × AV)) ∧ τ = ([] : Store)) ?_ ?_
   · refine yN 84 rfl (fun hg84 => ?_) (fun hg84 => ?_)
     · have t31 := eq_true hg84
       refine zb tok 3 ?_
       simp only [go_sem, qb, qa]
       refine za ⟨rfl, _, _, ⟨rfl, rfl⟩, .p t31⟩
     have t32 := eq_false hg84
     refine zb tok 3 ?_
     simp only [go_sem, qb, qa]
     refine za ⟨rfl, _, _, ⟨rfl, rfl⟩, .p t32⟩
   rintro _ _ ⟨rfl, rfl⟩
   refine zb tok 1 ?_
   simp only [go_sem, qb, qa]
   refine za ⟨rfl, _, _, ⟨rfl, rfl⟩, .b hg81⟩
 rintro _ _ ⟨rfl, rfl⟩
 refine za ?_
 simp only [ze, qa, reduceIte, zl, zq]
 apply hK
 refine zv (b := (((decide (x13 < x10)) || (decide (1114111 < x13))) || ((decide (55296 ≤ x13)) && (decide (x13 ≤ 57343))))) rfl (fun hc33 => ?_) (fun hc33 => ?_)
 · rw [if_pos hc33] at h
   refine rg tok [4, 5, 6] fun K hK => ?_
   simp only [go_sem, qb, qa]
   apply hK
   refine zj ?_
   obtain rfl := Option.some.inj h
   exact yr
 rw [xD hc33] at h
 refine zh ?_
 apply hZ28
 have f34 := xv (T := tab) (src := 3) (dst := 21) rfl rfl rfl
 refine rg tok [4, 5, 6] fun K hK => ?_
 simp only [go_sem, qb, qa, f34]
 apply hK
 refine zj ?_
 obtain rfl := Option.some.inj h
 exact yr
theorem yl.ev (a0 : List UInt8) (a1 : Int) (r : Int × Int × Bool) (h : yl a0 a1 = some r) (σ : Store) : ACalls qh 95 [.str a0, .int .i64 a1] σ (fun r' σ' => r' = .tup [.int .i32 r.1, .int .i64 r.2.1, .bool r.2.2] ∧ σ' = σ) :=
 (yl.ok a0 a1 r h).c σ
def xw.l8 (a0 : List UInt8) : Nat → List Int → Int → Option (List Int × Bool)
 | 0, _, _ => none
 | k8 + 1, l2, x4 => (if x4 < (qc a0 : Int) then (yl a0 x4).bind fun r12 => (if (!r12.2.2) = true then some (([] : List Int), false) else (YN (qc l2 + 1) 4).bind fun _u15 => ((xw.l8 a0 k8) (l2 ++ [r12.1]) (IntKind.i64.wrap (x4 + r12.2.1)))) else some (l2, true))
def xw (a0 : List UInt8) : Option (List Int × Bool) :=
 (xw.l8 a0 rounds ([] : List Int) 0)
theorem xw.ok (a0 : List UInt8) (r : List Int × Bool) (h : xw a0 = some r) : ACalls qh 65 [.str a0] [] (fun r' _ => r' = .tup [.ds true (qg (vbj .i32) r.1) (qc r.1) false, .bool r.2]) := by
 refine zn (rs := [.tmp 2, .tmp 3]) tok Tryd.func65 rfl Tryd.ntmps65 rfl Tryd.call65 (by simp) ?_
 refine zt [(0, .str a0)] ⟨rfl, trivial⟩ ?_
 unfold xw at h
 refine rg tok [0] fun K hK => ?_
 simp only [go_sem, qb, reduceCtorEq]
 apply hK
 refine rg tok [0, 4] fun K hK => ?_
 simp only [go_sem, qb, reduceCtorEq]
 apply hK
 refine Zm 4 1 rfl ?_
 refine yc (L := [(0, .str a0), (4, .os true 1 0 0 0 (qc ([] : List Int)) false)]) (τ := [.cells 0 (qg (vbj .i32) ([] : List Int))]) .s ?_
 refine zd fun Z1 hZ1 => ?_
 refine rg tok [0, 4, 5] fun K hK => ?_
 simp only [go_sem, qb, qa, reduceCtorEq]
 apply hK
 refine zk ?_
 refine zF (fun m L τ => ∃ (k8 : Nat) (l2 : List Int) (x4 : Int) (v3 : Nat), m = 0 + k8 ∧ L = ([(0, .str a0), (4, .os true 1 0 v3 0 (qc l2) false), (5, .int .i64 x4)] : List (Nat × AV)) ∧ τ = ([.cells v3 (qg (vbj .i32) l2)] : Store) ∧ xw.l8 a0 k8 l2 x4 = some r) _ ⟨rounds, ([] : List Int), 0, 0, rfl, rfl, rfl, h⟩ .s ?_
 rintro m L τ ⟨k8, l2, x4, v3, rfl, rfl, rfl, h⟩
 rcases k8 with _ | k8
 · cases h
 simp only [xw.l8] at h
 refine zd fun Z9 hZ9 => ?_
 refine rg tok [0, 4, 5, 12] fun K hK => ?_
 simp only [go_sem, qb, qa, reduceCtorEq]
 apply hK
 refine zI rfl (fun hc10 => ?_) (fun hc10 => ?_)
 · rw [if_pos hc10] at h
   have t11 := eq_true hc10
   refine zh ?_
   apply hZ9
   refine zk ?_
   refine rc [0, 4, 5, 6, 7, 8] fun K hK => ?_
   obtain ⟨r12, hr12, h⟩ := bind_some h
   refine zb tok 2 ?_
   simp only [go_sem, qb, qa, reduceCtorEq, t11]
   refine zi rfl rfl rfl (yl.ev a0 x4 r12 hr12 _) ?_
   rintro _ _ ⟨rfl, rfl⟩
   refine zb tok 7 ?_
   simp only [go_sem, qb, qa, qd, reduceCtorEq]
   refine za ?_
   simp only [ze, upd, qa, reduceIte, zl, zq]
   apply hK
   refine zd fun Z13 hZ13 => ?_
   refine rg tok [0, 4, 5, 6, 7, 21] fun K hK => ?_
   simp only [go_sem, qb, qa, reduceCtorEq]
   apply hK
   refine zv (b := (!r12.2.2)) rfl (fun hc14 => ?_) (fun hc14 => ?_)
   · rw [if_pos hc14] at h
     refine rg tok [2, 3] fun K hK => ?_
     simp only [go_sem, qb, qa, reduceCtorEq]
     apply hK
     refine zj ?_
     obtain rfl := Option.some.inj h
     exact yr
   rw [xD hc14] at h
   refine zh ?_
   apply hZ13
   obtain ⟨_u15, hu15, h⟩ := bind_some h
   have gu15 := yy hu15
   have f16 := (zK E117.len l2)
   refine rg tok [0, 4, 5, 7] fun K hK => ?_
   simp only [go_sem, qb, qe, qa, qw, reduceCtorEq, zR, z8, ug, qY, true_and, ul, yn, zY, yq, gu15, f16, yS, uf, qZ, AV.one, qS, qA, qk, qn, qt, qC]
   apply hK
   refine yc (L := [(0, .str a0), (4, .os true 1 0 (v3 + 1) 0 (qc (l2 ++ [r12.1])) false), (5, .int .i64 x4), (7, .int .i64 r12.2.1)]) (τ := [.cells (v3 + 1) (qg (vbj .i32) (l2 ++ [r12.1])), .cells 0 [.int .i32 r12.1]]) .s ?_
   refine rgE tok [0, 4, 5] fun K hK => ?_
   simp only [go_sem, qb, qa, reduceCtorEq]
   apply hK
   exact ⟨_, _, _, qu (0 + k8), ⟨k8, l2 ++ [r12.1], IntKind.i64.wrap (x4 + r12.2.1), v3 + 1, rfl, rfl, rfl, h⟩, (.t [0] false)⟩
 rw [if_neg hc10] at h
 have t17 := eq_false hc10
 refine zM ?_
 apply hZ1
 refine rg tok [2, 3] fun K hK => ?_
 simp only [go_sem, qb, qa, reduceCtorEq, t17]
 apply hK
 refine zj ?_
 obtain rfl := Option.some.inj h
 exact yr
theorem xw.ev (a0 : List UInt8) (r : List Int × Bool) (h : xw a0 = some r) (σ : Store) : ACalls qh 65 [.str a0] σ (fun r' σ' => r' = .tup [.ds true (qg (vbj .i32) r.1) (qc r.1) false, .bool r.2] ∧ σ' = σ) :=
 (xw.ok a0 r h).c σ
def yX (a0 : Int) : Bool :=
 ((((((decide (97 ≤ a0)) && (decide (a0 ≤ 122))) || ((decide (65 ≤ a0)) && (decide (a0 ≤ 90)))) || (decide (a0 = 95))) || ((((decide (192 ≤ a0)) && (decide (a0 ≤ 591))) && (!(decide (a0 = 215)))) && (!(decide (a0 = 247))))) || (((decide (913 ≤ a0)) && (decide (a0 ≤ 969))) && (!(decide (a0 = 930)))))
theorem yX.ok (a0 : Int) (r : Bool) (h : yX a0 = r) : ACalls qh 66 [.int .i32 a0] [] (fun r' _ => r' = .bool r) := by
 refine zn (rs := [.tmp 2]) tok Tryd.func66 rfl Tryd.ntmps66 rfl Tryd.call66 (by simp) ?_
 refine zt [(0, .int .i32 a0)] ⟨rfl, trivial⟩ ?_
 unfold yX at h
 refine rg tok [0] fun K hK => ?_
 simp only [go_sem, qb, reduceCtorEq]
 apply hK
 refine rc [2] fun K hK => ?_
 refine zb tok 3 ?_
 simp only [go_sem, qb, qa, reduceCtorEq]
 refine zo 3 (fun L τ => L = ([(0, .int .i32 a0), (8, .bool ((decide (97 ≤ a0)) && (decide (a0 ≤ 122))))] : List (Nat × AV)) ∧ τ = ([] : Store)) ?_ ?_
 · refine yN 5 rfl (fun hg5 => ?_) (fun hg5 => ?_)
   · have t1 := eq_true hg5
     refine zb tok 3 ?_
     simp only [go_sem, qb, qa, reduceCtorEq]
     refine za ⟨rfl, _, _, ⟨rfl, rfl⟩, .p t1⟩
   have t2 := eq_false hg5
   refine zb tok 3 ?_
   simp only [go_sem, qb, qa, reduceCtorEq]
   refine za ⟨rfl, _, _, ⟨rfl, rfl⟩, .p t2⟩
 rintro _ _ ⟨rfl, rfl⟩
 refine zb tok 1 ?_
 simp only [go_sem, qb, reduceCtorEq]
 refine zo 7 (fun L τ => L = ([(0, .int .i32 a0), (16, .bool (((decide (97 ≤ a0)) && (decide (a0 ≤ 122))) || ((decide (65 ≤ a0)) && (decide (a0 ≤ 90)))))] : List (Nat × AV)) ∧ τ = ([] : Store)) ?_ ?_
 · refine zQ (b := ((decide (97 ≤ a0)) && (decide (a0 ≤ 122)))) 9 rfl (fun hg9 => ?_) (fun hg9 => ?_)
   · refine zb tok 7 ?_
     simp only [go_sem, qb, qa, reduceCtorEq]
     refine za ⟨rfl, _, _, ⟨rfl, rfl⟩, .b hg9⟩
   refine zb tok 3 ?_
   simp only [go_sem, qb, qa, reduceCtorEq]
   refine zo 3 (fun L τ => L = ([(0, .int .i32 a0), (9, .bool false), (15, .bool ((decide (65 ≤ a0)) && (decide (a0 ≤ 90))))] : List (Nat × AV)) ∧ τ = ([] : Store)) ?_ ?_
   · refine yN 12 rfl (fun hg12 => ?_) (fun hg12 => ?_)
     · have t3 := eq_true hg12
       refine zb tok 3 ?_
       simp only [go_sem, qb, qa, reduceCtorEq]
       refine za ⟨rfl, _, _, ⟨rfl, rfl⟩, .p t3⟩
     have t4 := eq_false hg12
     refine zb tok 3 ?_
     simp only [go_sem, qb, qa, reduceCtorEq]
     refine za ⟨rfl, _, _, ⟨rfl, rfl⟩, .p t4⟩
   rintro _ _ ⟨rfl, rfl⟩
   refine zb tok 1 ?_
   simp only [go_sem, qb, qa, reduceCtorEq]
   refine za ⟨rfl, _, _, ⟨rfl, rfl⟩, .b hg9⟩
 rintro _ _ ⟨rfl, rfl⟩
 refine zb tok 1 ?_
 simp only [go_sem, qb, reduceCtorEq]
 refine zo 3 (fun L τ => L = ([(0, .int .i32 a0), (20, .bool ((((decide (97 ≤ a0)) && (decide (a0 ≤ 122))) || ((decide (65 ≤ a0)) && (decide (a0 ≤ 90)))) || (decide (a0 = 95))))] : List (Nat × AV)) ∧ τ = ([] : Store)) ?_ ?_
 · refine zQ (b := (((decide (97 ≤ a0)) && (decide (a0 ≤ 122))) || ((decide (65 ≤ a0)) && (decide (a0 ≤ 90))))) 17 rfl (fun hg17 => ?_) (fun hg17 => ?_)
   · refine zb tok 3 ?_
     simp only [go_sem, qb, qa, reduceCtorEq]
     refine za ⟨rfl, _, _, ⟨rfl, rfl⟩, .b hg17⟩
   refine zb tok 3 ?_
   simp only [go_sem, qb, qa, reduceCtorEq]
   refine za ⟨rfl, _, _, ⟨rfl, rfl⟩, .b hg17⟩
 rintro _ _ ⟨rfl, rfl⟩
 refine zb tok 1 ?_
 simp only [go_sem, qb, reduceCtorEq]
 refine zo 15 (fun L τ => L = ([(0, .int .i32 a0), (36, .bool (((((decide (97 ≤ a0)) && (decide (a0 ≤ 122))) || ((decide (65 ≤ a0)) && (decide (a0 ≤ 90)))) || (decide (a0 = 95))) || ((((decide (192 ≤ a0)) && (decide (a0 ≤ 591))) && (!(decide (a0 = 215)))) && (!(decide (a0 = 247))))))] : List (Nat × AV)) ∧ τ = ([] : Store)) ?_ ?_
 · refine zQ (b := ((((decide (97 ≤ a0)) && (decide (a0 ≤ 122))) || ((decide (65 ≤ a0)) && (decide (a0 ≤ 90)))) || (decide (a0 = 95)))) 21 rfl (fun hg21 => ?_) (fun hg21 => ?_)
   · refine zb tok 10 ?_
     simp only [go_sem, qb, qa, reduceCtorEq]
     refine zb tok 5 ?_
     simp only [go_sem, qb, qa, reduceCtorEq]
     refine za ⟨rfl, _, _, ⟨rfl, rfl⟩, .b hg21⟩
   refine zb tok 3 ?_
   simp only [go_sem, qb, qa, reduceCtorEq]
   refine zo 3 (fun L τ => L = ([(0, .int .i32 a0), (21, .bool false), (27, .bool ((decide (192 ≤ a0)) && (decide (a0 ≤ 591))))] : List (Nat × AV)) ∧ τ = ([] : Store)) ?_ ?_
   · refine yN 24 rfl (fun hg24 => ?_) (fun hg24 => ?_)
     · have t5 := eq_true hg24
       refine zb tok 3 ?_
       simp only [go_sem, qb, qa, reduceCtorEq]
       refine za ⟨rfl, _, _, ⟨rfl, rfl⟩, .p t5⟩
     have t6 := eq_false hg24
     refine zb tok 3 ?_
     simp only [go_sem, qb, qa, reduceCtorEq]
     refine za ⟨rfl, _, _, ⟨rfl, rfl⟩, .p t6⟩
   rintro _ _ ⟨rfl, rfl⟩
   refine zb tok 1 ?_
   simp only [go_sem, qb, qa, reduceCtorEq]
   refine zo 3 (fun L τ => L = ([(0, .int .i32 a0), (21, .bool false), (31, .bool (((decide (192 ≤ a0)) && (decide (a0 ≤ 591))) && (!(decide (a0 = 215)))))] : List (Nat × AV)) ∧ τ = ([] : Store)) ?_ ?_
   · refine zQ (b := ((decide (192 ≤ a0)) && (decide (a0 ≤ 591)))) 28 rfl (fun hg28 => ?_) (fun hg28 => ?_)
     · refine zb tok 3 ?_
       simp only [go_sem, qb, qa, reduceCtorEq]
       refine za ⟨rfl, _, _, ⟨rfl, rfl⟩, .b hg28⟩
     refine zb tok 3 ?_
     simp only [go_sem, qb, qa, reduceCtorEq]
     refine za ⟨rfl, _, _, ⟨rfl, rfl⟩, .b hg28⟩
   rintro _ _ ⟨rfl, rfl⟩
   refine zb tok 1 ?_
   simp only [go_sem, qb, qa, reduceCtorEq]
   refine zo 3 (fun L τ => L = ([(0, .int .i32 a0), (21, .bool false), (35, .bool ((((decide (192 ≤ a0)) && (decide (a0 ≤ 591))) && (!(decide (a0 = 215)))) && (!(decide (a0 = 247)))))] : List (Nat × AV)) ∧ τ = ([] : Store)) ?_ ?_
   · refine zQ (b := (((decide (192 ≤ a0)) && (decide (a0 ≤ 591))) && (!(decide (a0 = 215))))) 32 rfl (fun hg32 => ?_) (fun hg32 => ?_)
     · refine zb tok 3 ?_
       simp only [go_sem, qb, qa, reduceCtorEq]
       refine za ⟨rfl, _, _, ⟨rfl, rfl⟩, .b hg32⟩
     refine zb tok 3 ?_
     simp only [go_sem, qb, qa, reduceCtorEq]
     refine za ⟨rfl, _, _, ⟨rfl, rfl⟩, .b hg32⟩
   rintro _ _ ⟨rfl, rfl⟩
   refine zb tok 1 ?_
   simp only [go_sem, qb, qa, reduceCtorEq]
   refine za ⟨rfl, _, _, ⟨rfl, rfl⟩, .b hg21⟩
 rintro _ _ ⟨rfl, rfl⟩
 refine zb tok 1 ?_
 simp only [go_sem, qb, reduceCtorEq]
 refine zo 11 (fun L τ => L = ([(48, .bool ((((((decide (97 ≤ a0)) && (decide (a0 ≤ 122))) || ((decide (65 ≤ a0)) && (decide (a0 ≤ 90)))) || (decide (a0 = 95))) || ((((decide (192 ≤ a0)) && (decide (a0 ≤ 591))) && (!(decide (a0 = 215)))) && (!(decide (a0 = 247))))) || (((decide (913 ≤ a0)) && (decide (a0 ≤ 969))) && (!(decide (a0 = 930))))))] : List (Nat × AV)) ∧ τ = ([] : Store)) ?_ ?_
 · refine zQ (b := (((((decide (97 ≤ a0)) && (decide (a0 ≤ 122))) || ((decide (65 ≤ a0)) && (decide (a0 ≤ 90)))) || (decide (a0 = 95))) || ((((decide (192 ≤ a0)) && (decide (a0 ≤ 591))) && (!(decide (a0 = 215)))) && (!(decide (a0 = 247)))))) 37 rfl (fun hg37 => ?_) (fun hg37 => ?_)
   · refine zb tok 10 ?_
     simp only [go_sem, qb, qa, reduceCtorEq]
     refine zb tok 1 ?_
     simp only [go_sem, qb, qa, reduceCtorEq]
     refine za ⟨rfl, _, _, ⟨rfl, rfl⟩, .b hg37⟩
   refine zb tok 3 ?_
   simp only [go_sem, qb, qa, reduceCtorEq]
   refine zo 3 (fun L τ => L = ([(0, .int .i32 a0), (37, .bool false), (43, .bool ((decide (913 ≤ a0)) && (decide (a0 ≤ 969))))] : List (Nat × AV)) ∧ τ = ([] : Store)) ?_ ?_
   · refine yN 40 rfl (fun hg40 => ?_) (fun hg40 => ?_)
     · have t7 := eq_true hg40
       refine zb tok 3 ?_
       simp only [go_sem, qb, qa, reduceCtorEq]
       refine za ⟨rfl, _, _, ⟨rfl, rfl⟩, .p t7⟩
     have t8 := eq_false hg40
     refine zb tok 3 ?_
     simp only [go_sem, qb, qa, reduceCtorEq]
     refine za ⟨rfl, _, _, ⟨rfl, rfl⟩, .p t8⟩
   rintro _ _ ⟨rfl, rfl⟩
   refine zb tok 1 ?_
   simp only [go_sem, qb, qa, reduceCtorEq]
   refine zo 3 (fun L τ => L = ([(37, .bool false), (47, .bool (((decide (913 ≤ a0)) && (decide (a0 ≤ 969))) && (!(decide (a0 = 930)))))] : List (Nat × AV)) ∧ τ = ([] : Store)) ?_ ?_
   · refine zQ (b := ((decide (913 ≤ a0)) && (decide (a0 ≤ 969)))) 44 rfl (fun hg44 => ?_) (fun hg44 => ?_)
     · refine zb tok 3 ?_
       simp only [go_sem, qb, qa, reduceCtorEq]
       refine za ⟨rfl, _, _, ⟨rfl, rfl⟩, .b hg44⟩
     refine zb tok 3 ?_
     simp only [go_sem, qb, qa, reduceCtorEq]
     refine za ⟨rfl, _, _, ⟨rfl, rfl⟩, .b hg44⟩
   rintro _ _ ⟨rfl, rfl⟩
   refine zb tok 1 ?_
   simp only [go_sem, qb, qa]
   refine za ⟨rfl, _, _, ⟨rfl, rfl⟩, .b hg37⟩
 rintro _ _ ⟨rfl, rfl⟩
 refine zb tok 1 ?_
 simp only [go_sem, qb]
 refine za ?_
 simp only [ze, upd, qa, reduceIte, zl, zq]
 apply hK
 refine zj ?_
 obtain rfl := h
 exact yr
end
end Go.Proofs.YtaddlmlpeghonaaDoor
