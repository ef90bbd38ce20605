/- Parts of the proof, cut down to what it needs. -/
import Derived.Test.YtaddlmlpeghonaaGreatDoorKCf
import Derived.Test.YtaddlmlpeghonaaGreatDoorKFB
set_option linter.constructorNameAsVariable false
set_option linter.unusedSimpArgs false
set_option linter.unusedVariables false
namespace Go.Proofs.YtaddlmlpeghonaaGreatDoor
open _root_.List renaming length → qc, flatMap → qf, length_append → qi, length_cons → qk, length_nil → ql, mem_cons_self → qp, append_assoc → qq, mem_cons_of_mem → qr, getD_eq_getElem?_getD → qu, map_nil → qv, drop_zero → qz, append_nil → qA, nil_append → qB, length_eq_zero_iff → qC, map_cons → qD, map_append → qE, length_singleton → qG, cons_append → qH, mem_cons → qM, replicate → qP, getElem?_append_left → qS, flatMap_cons → qT, getElem?_eq_getElem → qW, range_zero → qX, flatMap_append → qY, length_map → q2, getElem?_eq_some_iff → q3, all_cons → q5, range_succ → q7, all_eq_true → ua, getElem?_set_ne → ub, all_nil → ud, take_of_length_le → uh, getElem?_append_right → ui, flatMap_nil → uj, take_length → um, pairwise_cons → un, take_append_drop → uo, getElem?_set_self → ur, mem_append_right → ut, getElem?_eq_none → uu, mem_map → uv, mem_append → ux, range → uz, filter_cons → uA, set_cons_zero → uB, length_take → uF, length_drop → uG, getElem?_cons_zero → uH, getElem?_cons_succ → uI, mem_singleton → uJ, set_cons_succ → uP
open _root_.Option renaming bind_some → qg, map_some → uw, getD_some → uO
open _root_.Nat renaming reduceEqDiff → qa, reduceLT → qb, reduceAdd → qd, reduceLeDiff → qe, zero_add → qn, reduceMul → qs, le_refl → qt, lt_succ_self → qw, reduceSub → qF, mul_le_mul_right → qZ, reduceMod → uf, lt_of_lt_of_le → ug, zero_le → ul, le_trans → uq, zero_mul → uy, sub_zero → uM, sub_self → uN, succ_mul → uQ, add_zero → uR, add_assoc → uS, add_mul → uT
open _root_.Bool renaming and_eq_true → qm, not_false → qx, not_true → qI, or_true → qJ, and_false → qL, and_true → qO, or_eq_true → qQ, or_false → qR, and_self → qU, false_eq_true → q1, not_eq_true' → uD, true_and → uE, false_ne_true → uK, false_or → uL
open _root_.Int renaming toNat → qK, toNat_natCast → qV
open _root_.BitVec renaming ofInt → qy, toNat → uk
open _root_.Array renaming length_toList → ue, getD_eq_getD_getElem? → uC, getElem?_eq_getElem → uU
open _root_.UInt8 renaming ofNat → uc
open Result renaming andThen_ok → qj
open Sem renaming run_bind → qo, run_pure → qN
open _root_.Go.Proofs.Tryz renaming prog → qh
section
set_option maxRecDepth 4000
set_option maxHeartbeats 1000000
open AM
theorem Zw.ev (a0 : Int) (r : GValueValue) (h : Zw a0 = r) (σ : Store) : ACalls qh 133 [.int .i64 a0] σ (fun r' σ' => r' = .agg (encGValueValue r) ∧ σ' = σ) :=
 (Zw.ok a0 r h).c σ
def Zv (a0 : List UInt8) : GValueValue :=
 (GValueValue.str a0)
theorem Zv.ok (a0 : List UInt8) (r : GValueValue) (h : Zv a0 = r) : ACalls qh 134 [.str a0] [] (fun r' _ => r' = .agg (encGValueValue r)) := by
 refine zm (rs := [.cell 2 110]) tok Tryz.func134 rfl Tryz.ntmps134 rfl Tryz.call134 (by simp) ?_
 refine zq [(0, .str a0)] ⟨rfl, trivial⟩ ?_
 unfold Zv at h
 refine rg tok [0, 2] fun K hK => ?_
 simp only [go_sem, qb, reduceCtorEq]
 apply hK
 refine rg tok [2] fun K hK => ?_
 simp only [go_sem, qb, qe, qa, reduceCtorEq]
 apply hK
 refine zi ?_
 obtain rfl := h
 exact yy
theorem Zv.ev (a0 : List UInt8) (r : GValueValue) (h : Zv a0 = r) (σ : Store) : ACalls qh 134 [.str a0] σ (fun r' σ' => r' = .agg (encGValueValue r) ∧ σ' = σ) :=
 (Zv.ok a0 r h).c σ
def yK (a0 : List GRaw) : Option (List GRaw) := (Yi (qc a0) 40).bind fun _ => some a0
theorem yK.ok (a0 r : List GRaw) (h : yK a0 = some r) : ACalls qh 135 [.ds true (qf encGRaw a0) (qc a0) false] [] (fun r' _ => r' = .ds true (qf encGRaw r) (qc r) false) := by
 obtain ⟨_u, hu, h⟩ := bind_some h
 have gu := yq hu
 obtain rfl := Option.some.inj h
 have f1 := fun nl tt σ => xO E28.len a0 nl tt σ
 have f2 := zE E28.len a0
 have f3 := Zt encGRaw a0
 have fin : ∀ σ id ver tt, Store.at σ id ver = some (qf encGRaw a0) → tell σ [] true 12 (.os true 4 id ver 0 (qc a0) tt) = .ds true (qf encGRaw a0) (qc a0) false := by
  intro σ id ver tt hs
  simp only [Zc, wQ, hs, qz, qn]
  rw [if_pos (by rw [f2]; exact qt _), ← f2, um, zF]
 refine zm (rs := [.tmp 2]) tok Tryz.func135 rfl Tryz.ntmps135 rfl Tryz.call135 (by simp) ?_
 refine zq [(0, .ds true (qf encGRaw a0) (qc a0) false)] ⟨rfl, trivial⟩ ?_
 refine rg tok [0] fun K hK => ?_
 simp only [go_sem, qb, reduceCtorEq]
 apply hK
 refine ze fun Z1 hZ1 => ?_
 refine rc [0, 4] fun K hK => ?_
 refine za tok 1 ?_
 simp only [go_sem, qb]
 refine X4 tok rfl rfl rfl rfl rfl rfl fun b hnil => ?_
 have hb : b = true → a0 = [] := fun hb => by
  have := hnil hb
  simp only [yk, go_sem, reduceCtorEq] at this
  exact List.eq_nil_of_length_eq_zero this
 clear hnil
 refine zb ?_
 simp only [zd, Z0, upd, qa, reduceIte, zk, zo]
 apply hK
 cases b
 · refine zx rfl ?_
   refine zf ?_
   apply hZ1
   refine rg tok [2] fun K hK => ?_
   by_cases h0 : qc a0 = 0
   · obtain rfl := List.eq_nil_of_length_eq_zero h0
     simp only [go_sem, qb, qa, qd, reduceCtorEq, zO, z7, qX, ul, yh, zU, yk, yi, uj, ql, uy, ud]
     apply hK
     refine zi ?_
     simp only [Zl, yP, y1, xJ, exists_eq_left', go_sem]
     first | rfl | (simp only [go_sem, qb, qe, qa, qd, qs, qF, reduceIte, reduceCtorEq, Zc, wQ, qv] <;> rfl)
   have h1 := eq_false h0
   simp only [go_sem, qb, qa, qd, reduceCtorEq, zO, z7, qX, ul, yh, zU, yk, f1, f3, h1, gu, yG, qv, qB, uy]
   apply hK
   refine zi ?_
   simp only [Zl, yP, y1, xJ, exists_eq_left', go_sem]
   exact fin _ _ _ _ (by simp only [Store.at_hd, Store.at_tl, if_true])
 obtain rfl := hb rfl
 refine zA rfl ?_
 refine rg tok [2] fun K hK => ?_
 simp only [go_sem, qb, qa, reduceCtorEq]
 apply hK
 refine zi ?_
 simp only [Zl, yP, y1, xJ, exists_eq_left', go_sem]
 first | rfl | (simp only [go_sem, qb, qe, qa, qd, qs, qF, reduceIte, reduceCtorEq, YC, qv, qJ, qI, qL] <;> rfl)
theorem yK.own (a0 r : List GRaw) (h : yK a0 = some r) : ACalls qh 135 [.ds true (qf encGRaw a0) (qc a0) false] [] (fun r' σ' => r' = .os true 4 0 0 0 (qc r) false ∧ σ' = [.cells 0 (qf encGRaw r)]) := by
 obtain ⟨_u, hu, h⟩ := bind_some h
 have gu := yq hu
 obtain rfl := Option.some.inj h
 have f1 := fun nl tt σ => xO E28.len a0 nl tt σ
 have f2 := zE E28.len a0
 have f3 := Zt encGRaw a0
 refine vbz (rs := [.tmp 2]) tok Tryz.func135 rfl Tryz.ntmps135 rfl Tryz.call135 (by simp) ?_
 refine zq [(0, .ds true (qf encGRaw a0) (qc a0) false)] ⟨rfl, trivial⟩ ?_
 refine rg tok [0] fun K hK => ?_
 simp only [go_sem, qb, reduceCtorEq]
 apply hK
 refine ze fun Z1 hZ1 => ?_
 refine rc [0, 4] fun K hK => ?_
 refine za tok 1 ?_
 simp only [go_sem, qb]
 refine X4 tok rfl rfl rfl rfl rfl rfl fun b hnil => ?_
 have hb : b = true → a0 = [] := fun hb => by
  have := hnil hb
  simp only [yk, go_sem, reduceCtorEq] at this
  exact List.eq_nil_of_length_eq_zero this
 clear hnil
 refine zb ?_
 simp only [zd, Z0, upd, qa, reduceIte, zk, zo]
 apply hK
 cases b
 · refine zx rfl ?_
   refine zf ?_
   apply hZ1
   refine rg tok [2] fun K hK => ?_
   by_cases h0 : qc a0 = 0
   · obtain rfl := List.eq_nil_of_length_eq_zero h0
     simp only [go_sem, qb, qa, qd, reduceCtorEq, zO, z7, qX, ul, yh, zU, yk, yi, uj, ql, uy, ud]
     apply hK
     refine zi ?_
     simp only [Zl, yP, y1, xJ, exists_eq_left', go_sem]
     refine .inl ⟨0, true, by simp, ?_, ?_⟩
     · first | rfl | (simp only [go_sem, qb, qe, qa, qd, qs, qF, reduceIte, reduceCtorEq, Zc, wT, if_true] <;> rfl)
     first | rfl | (simp only [go_sem, qb, qe, qa, qd, qs, qF, reduceIte, reduceCtorEq, Yc, vaX, ZI, Ye, Yd, qv] <;> rfl)
   have h1 := eq_false h0
   simp only [go_sem, qb, qa, qd, reduceCtorEq, zO, z7, qX, ul, yh, zU, yk, f1, f3, h1, gu, yG, qv, qB, uy]
   apply hK
   refine zi ?_
   simp only [Zl, yP, y1, xJ, exists_eq_left', go_sem, qd]
   refine .inl ⟨1, false, by simp, ?_, ?_⟩
   · first | rfl | (simp only [go_sem, qb, qe, qa, qd, qs, qF, reduceIte, reduceCtorEq, Zc, wT, if_true] <;> rfl)
   first | rfl | (simp only [go_sem, Yc, ZI, Ye, Yd, zF] <;> rfl)
 obtain rfl := hb rfl
 refine zA rfl ?_
 refine rg tok [2] fun K hK => ?_
 simp only [go_sem, qb, qa, reduceCtorEq]
 apply hK
 refine zi ?_
 simp only [Zl, yP, y1, xJ, exists_eq_left', go_sem]
 refine .inr ?_
 first | rfl | (simp only [go_sem, qb, qe, qa, qd, qs, qF, reduceIte, reduceCtorEq, YC, qv, qJ, qR, qx, qO] <;> rfl)
theorem yK.ev (a0 r : List GRaw) (h : yK a0 = some r) (σ : Store) : ACalls qh 135 [.ds true (qf encGRaw a0) (qc a0) false] σ (fun r' σ' => r' = .ds true (qf encGRaw r) (qc r) false ∧ σ' = σ) :=
 (yK.ok a0 r h).pureAt (by simp only [AV.canon, canonL, canon_all, qU, qx, Bool.true_or]) (by simp only [AV.canon, canon_all, qU, qx, Bool.true_or]) σ
def zM.l35 (yn : GTree → Option GValueValue) (l14 : List GValueEntry) (x16 : Int) (rec20 : List GValueEntry → Int → Option GValueValue) (y25 : GEntry) : List GTree → Int → List GValueValue → Option GValueValue
 | [], x31, l29 => (Yi (qc l14 + 1) 32).bind fun _u37 => (rec20 (l14 ++ [(⟨y25.fTag, l29⟩ : GValueEntry)]) (IntKind.i64.wrap (x16 + 1)))
 | y35 :: q35, x31, l29 => (yn y35).bind fun r43 => (Yi (qc l29 + 1) 16).bind fun _u45 => ((zM.l35 yn l14 x16 rec20 y25 q35) (x31 + 1) (l29 ++ [r43]))
def zM.l20 (yn : GTree → Option GValueValue) (a0 : GTree) (r12 : List GRaw) : Nat → List GValueEntry → Int → Option GValueValue
 | 0, _, _ => none
 | k20 + 1, l14, x16 => (if x16 < (qc a0.fEntries : Int) then (wW a0.fEntries x16).bind fun y25 => (zM.l35 yn l14 x16 (zM.l20 yn a0 r12 k20) y25 y25.fTrees 0 ([] : List GValueValue)) else some (GValueValue.node l14 r12))
def zM.l62 (yn : GTree → Option GValueValue) (a0 : GTree) (r12 : List GRaw) (y52 : GEntry) : List GTree → Int → List GValueValue → Option GValueValue
 | [], x58, l56 => (zM.l20 yn a0 r12 rounds [(⟨y52.fTag, l56⟩ : GValueEntry)] (IntKind.i64.wrap (0 + 1)))
 | y62 :: q62, x58, l56 => (yn y62).bind fun r68 => (Yi (qc l56 + 1) 16).bind fun _u70 => ((zM.l62 yn a0 r12 y52 q62) (x58 + 1) (l56 ++ [r68]))
def zM.body (yn : GTree → Option GValueValue) (a0 : GTree) : Option GValueValue :=
 (if a0.fKind = 1 then bnd (Zw a0.fN) fun r4 => some r4 else (if a0.fKind = 2 then bnd (Zv a0.fS) fun r9 => some r9 else (yK a0.fRest).bind fun r12 => (if 0 < (qc a0.fEntries : Int) then (wW a0.fEntries 0).bind fun y52 => (zM.l62 yn a0 r12 y52 y52.fTrees 0 ([] : List GValueValue)) else some (GValueValue.node ([] : List GValueEntry) r12))))
theorem zM.step (yn : GTree → Option GValueValue) (ih_value_made : ∀ (a0 : GTree) (r : GValueValue), yn a0 = some r → ACalls qh 97 [.agg (cellsGTree a0)] [] (fun r' _ => r' = .agg (encGValueValue r))) (a0 : GTree) (r : GValueValue) (h : zM.body yn a0 = some r) : ACalls qh 97 [.agg (cellsGTree a0)] [] (fun r' _ => r' = .agg (encGValueValue r)) := by
 have ev_value_made := fun a0 r h σ => (ih_value_made a0 r h).c σ
 refine zm (rs := [.cell 2 110]) tok Tryz.func97 rfl Tryz.ntmps97 rfl Tryz.call97 (by simp) ?_
 refine zq [(0, .agg (cellsGTree a0))] ⟨rfl, trivial⟩ ?_
 unfold zM.body at h
 refine rg tok [1, 2] fun K hK => ?_
 simp only [go_sem, qb, qa, qd, reduceCtorEq, cellsGTree]
 apply hK
 refine ze fun Z1 hZ1 => ?_
 refine rg tok [1, 2, 10] fun K hK => ?_
 simp only [go_sem, qb, qa, qd]
 apply hK
 refine zj ?_
 refine rg tok [1, 2, 10, 11] fun K hK => ?_
 simp only [go_sem, qb, qa]
 apply hK
 refine zI rfl (fun hc2 => ?_) (fun hc2 => ?_)
 · rw [if_pos hc2] at h
   have t3 := eq_true hc2
   refine rc [2] fun K hK => ?_
   obtain ⟨r4, hr4, h⟩ := zW h
   refine za tok 2 ?_
   simp only [go_sem, qb, qa, qd, t3]
   refine zh rfl rfl rfl (Zw.ev a0.fN r4 hr4 _) ?_
   rintro _ _ ⟨rfl, rfl⟩
   have f5 := Zm r4
   unfold AV.one at f5
   refine za tok 1 ?_
   simp only [go_sem, qe, qa, encGValueValue, f5]
   refine zb ?_
   simp only [zd, upd, qa, reduceIte, zk, zo]
   apply hK
   refine zi ?_
   obtain rfl := Option.some.inj h
   exact yy
 rw [if_neg hc2] at h
 have t6 := eq_false hc2
 refine rg tok [1, 2, 16] fun K hK => ?_
 simp only [go_sem, qb, qa, t6]
 apply hK
 refine zI rfl (fun hc7 => ?_) (fun hc7 => ?_)
 · rw [if_pos hc7] at h
   have t8 := eq_true hc7
   refine rc [2] fun K hK => ?_
   obtain ⟨r9, hr9, h⟩ := zW h
   refine za tok 2 ?_
   simp only [go_sem, qb, qa, qd, t8]
   refine zh rfl rfl rfl (Zv.ev a0.fS r9 hr9 _) ?_
   rintro _ _ ⟨rfl, rfl⟩
   have f10 := Zm r9
   unfold AV.one at f10
   refine za tok 1 ?_
   simp only [go_sem, qe, qa, encGValueValue, f10]
   refine zb ?_
   simp only [zd, upd, qa, reduceIte, zk, zo]
   apply hK
   refine zi ?_
   obtain rfl := Option.some.inj h
   exact yy
 rw [if_neg hc7] at h
 have t11 := eq_false hc7
 refine zf ?_
 apply hZ1
 refine rc [1, 2, 3] fun K hK => ?_
 obtain ⟨r12, hr12, h⟩ := bind_some h
 refine za tok 2 ?_
 simp only [go_sem, qb, qa, qd, t11]
 refine zh rfl rfl rfl (yK.ev a0.fRest r12 hr12 _) ?_
 rintro _ _ ⟨rfl, rfl⟩
 refine za tok 3 ?_
 simp only [go_sem, qb, qe, qa, qd]
 refine zb ?_
 simp only [zd, upd, qa, reduceIte, zk, zo]
 apply hK
 refine ze fun Z13 hZ13 => ?_
 refine rg tok [2, 3, 27, 28, 29] fun K hK => ?_
 simp only [go_sem, qb, qa, qd]
 apply hK
 refine zj ?_
 refine awp_loopS1 (fun m L τ => ∃ (k20 : Nat) (l14 : List GValueEntry) (x16 : Int) (v15 : Nat), m = 0 + k20 ∧ L = [(2, .op 0 0 0), (3, .op 1 0 0), (27, .ds true (qf encGEntry a0.fEntries) (qc a0.fEntries) false), (28, .int .i64 (qc a0.fEntries : Int)), (29, .int .i64 x16)] ∧ τ = ([.cells 0 [.nilI], .cells 0 [.os true 2 2 v15 0 (qc l14) false, .ds true (qf encGRaw r12) (qc r12) false], .cells v15 (qf encGValueEntry l14)] : Store) ∧ zM.l20 yn a0 r12 k20 l14 x16 = some r) (rounds + 1) ?_ ?_
 · refine rg tok [2, 3, 27, 28, 29, 30] fun K hK => ?_
   simp only [go_sem, qb, qa]
   apply hK
   refine ze fun Z48 hZ48 => ?_
   refine zI rfl (fun hc49 => ?_) (fun hc49 => ?_)
   · rw [if_pos hc49] at h
     have t50 := eq_true hc49
     refine zf ?_
     apply hZ48
     refine ze fun Z51 hZ51 => ?_
     refine zj ?_
     obtain ⟨y52, hy52, h⟩ := bind_some h
     have f53 := E27.idxS hy52
     have f54 := E27.loadS rfl rfl hy52
     refine rg tok [2, 3, 5, 27, 28, 29] fun K hK => ?_
     simp only [go_sem, qb, qe, qa, qd, cellsGEntry, yo, t50, f53, f54]
     apply hK
     refine rg tok [2, 3, 5, 6, 27, 28, 29] fun K hK => ?_
     simp only [go_sem, qb, qe, qa, qd]
     apply hK
     refine wF 4 1 1 rfl (by simp) rfl (L := [(2, .op 1 0 0), (3, .op 2 0 0), (5, .op 3 0 0), (6, .op 4 0 0), (27, .ds true (qf encGEntry a0.fEntries) (qc a0.fEntries) false), (28, .int .i64 (qc a0.fEntries : Int)), (29, .int .i64 0)]) (τ := [.cells 0 (cellsGTree a0), .cells 0 [.nilI], .cells 0 [.ds true [] 0 true, .ds true (qf encGRaw r12) (qc r12) false], .cells 0 (cellsGEntry y52), .cells 0 [.int .i64 y52.fTag, .os true 1 5 0 0 (qc ([] : List GValueValue)) false], .cells 0 (qf encGValueValue ([] : List GValueValue))]) .s ?_
     refine ze fun Z55 hZ55 => ?_
     refine rg tok [2, 3, 6, 27, 28, 29, 37, 38, 39] fun K hK => ?_
     simp only [go_sem, qb, qa, qd]
     apply hK
     refine zj ?_
     refine xh 37 fun hb62 => ?_
     replace hb62 : qc y52.fTrees ≤ 9223372036854775807 := hb62.1
     refine zB (fun m L τ => ∃ (p62 q62 : List GTree) (x58 : Int) (l56 : List GValueValue) (v57 : Nat), m = qc q62 ∧ L = [(2, .op 0 0 0), (3, .op 1 0 0), (6, .op 2 0 0), (27, .ds true (qf encGEntry a0.fEntries) (qc a0.fEntries) false), (28, .int .i64 (qc a0.fEntries : Int)), (29, .int .i64 0), (37, .ds true (qf encGTree y52.fTrees) (qc y52.fTrees) false), (38, .int .i64 (qc y52.fTrees : Int)), (39, .int .i64 x58)] ∧ τ = ([.cells 0 [.nilI], .cells 0 [.ds true [] 0 true, .ds true (qf encGRaw r12) (qc r12) false], .cells 0 [.int .i64 y52.fTag, .os true 1 3 v57 0 (qc l56) false], .cells v57 (qf encGValueValue l56)] : Store) ∧ y52.fTrees = p62 ++ q62 ∧ x58 = (qc p62 : Int) ∧ zM.l62 yn a0 r12 y52 q62 x58 l56 = some r) _ ⟨[], y52.fTrees, 0, ([] : List GValueValue), 0, rfl, rfl, rfl, rfl, rfl, h⟩ (.t [1, 2, 4, 5] false) ?_
     rintro m L τ ⟨p62, q62, x58, l56, v57, rfl, rfl, rfl, hE62, hi62, h⟩
     rcases q62 with _ | ⟨y62, q62⟩
     · have hz62 := yC hE62 hi62
       simp only [zM.l62] at h
       refine rg tok [2, 3, 6, 27, 28, 29, 37, 38, 39, 40] fun K hK => ?_
       simp only [go_sem, qb, qa, hz62]
       apply hK
       refine ze fun Z63 hZ63 => ?_
       refine zx rfl ?_
       refine zJ ?_
       apply hZ55
       refine rdE [2, 3, 27, 28, 29] fun K hK => ?_
       refine DW.start (T := tab) [.any, .any, .any, .any, .own 1 [], .at [], .eff, .eff, .any, .any, .eff] [(1, [])] ?_
       refine DW.runN tok 8 ?_
       simp only [go_sem, qb, qe, qa, qd, qs, reduceCtorEq, zO, z7, q7, qX, true_and, uf, yh, zU, yk, yG, ud, q5, AV.one, qU, qB, qk, ql, qn, qH]
       refine DW.runN tok 3 ?_
       simp only [go_sem, qb, qe, qa, qd, qk, ql, qn]
       refine DW.fin tok (by decide +kernel) rfl ?_
       simp only [zd, upd, qa, reduceIte, zk, zo]
       apply hK
       apply hZ51
       refine rgE tok [2, 3, 27, 28, 29] fun K hK => ?_
       simp only [go_sem, qb, qa]
       apply hK
       exact ⟨_, _, _, (Nat.lt_succ_of_le (Nat.le_of_eq (qn rounds))), ⟨rounds, [(⟨y52.fTag, l56⟩ : GValueEntry)], IntKind.i64.wrap (0 + 1), 0, rfl, rfl, rfl, h⟩, (.t [0, 1, 5] false)⟩
     obtain ⟨hz62, hw62, hx62, hE'62, hi'62⟩ := ye hE62 hi62 hb62
     simp only [zM.l62] at h
     refine rg tok [2, 3, 6, 27, 28, 29, 37, 38, 39, 40] fun K hK => ?_
     simp only [go_sem, qb, qa, hz62]
     apply hK
     refine ze fun Z64 hZ64 => ?_
     refine zA rfl ?_
     refine zf ?_
     apply hZ64
     refine ze fun Z65 hZ65 => ?_
     refine zj ?_
     have f66 := E90.idxS hx62
     have f67 := E90.loadS rfl rfl hx62
     refine rg tok [2, 3, 6, 8, 27, 28, 29, 37, 38, 39] fun K hK => ?_
     simp only [go_sem, qb, qe, qa, qd, cellsGTree, yp, f66, f67]
     apply hK
     obtain ⟨r68, hr68, h⟩ := bind_some h
     have f69 := Zm r68
     unfold AV.one at f69
     obtain ⟨_u70, hu70, h⟩ := bind_some h
     have gu70 := yq hu70
     have f71 := (zE E156.len l56)
     refine rdE [2, 3, 6, 27, 28, 29, 37, 38, 39] fun K hK => ?_
     refine DW.start (T := tab) [.any, .own 2 [], .at [], .eff, .eff, .eff, .any, .eff] [(2, [])] ?_
     refine DW.runN tok 3 ?_
     simp only [go_sem, qb, qe, qa, qd, encGValueValue, qk, ql, qn]
     refine DW.call rfl rfl rfl (ev_value_made y62 r68 hr68 _) ?_
     refine DW.runN tok 4 ?_
     simp only [go_sem, qb, qe, qa, qd, qs, zO, z7, q7, qX, true_and, uf, yh, zU, yk, encGValueValue, f69, gu70, f71, yG, ud, q5, AV.one, qU, qB, qk, ql, qn, qH]
     refine DW.fin tok (by decide +kernel) rfl ?_
     simp only [zd, upd, qa, reduceIte, zk, zo]
     apply hK
     apply hZ65
     refine rgE tok [2, 3, 6, 27, 28, 29, 37, 38, 39] fun K hK => ?_
     simp only [go_sem, qb, qa, hw62]
     apply hK
     exact ⟨_, _, _, qw q62.length, ⟨p62 ++ [y62], q62, x58 + 1, l56 ++ [r68], v57 + 1, rfl, rfl, rfl, hE'62, hi'62, h⟩, (.t [0, 1, 2, 3] false)⟩
   rw [if_neg hc49] at h
   have t72 := eq_false hc49
   refine zJ ?_
   apply hZ13
   refine rg tok [2] fun K hK => ?_
   simp only [go_sem, qb, qe, qa, t72]
   apply hK
   refine zi ?_
   obtain rfl := Option.some.inj h
   exact yy
 clear h
 rintro m L τ ⟨k20, l14, x16, v15, rfl, rfl, rfl, h⟩
 rcases k20 with _ | k20
 · cases h
 simp only [zM.l20] at h
 refine rg tok [2, 3, 27, 28, 29, 30] fun K hK => ?_
 simp only [go_sem, qb, qa]
 apply hK
 refine ze fun Z21 hZ21 => ?_
 refine zI rfl (fun hc22 => ?_) (fun hc22 => ?_)
 · rw [if_pos hc22] at h
   have t23 := eq_true hc22
   refine zf ?_
   apply hZ21
   refine ze fun Z24 hZ24 => ?_
   refine zj ?_
   obtain ⟨y25, hy25, h⟩ := bind_some h
   have f26 := E27.idxS hy25
   have f27 := E27.loadS rfl rfl hy25
   refine rg tok [2, 3, 5, 27, 28, 29] fun K hK => ?_
   simp only [go_sem, qb, qe, qa, qd, cellsGEntry, yo, t23, f26, f27]
   apply hK
   refine rg tok [2, 3, 5, 6, 27, 28, 29] fun K hK => ?_
   simp only [go_sem, qb, qe, qa, qd]
   apply hK
   refine wF 4 1 1 rfl (by simp) rfl (L := [(2, .op 0 0 0), (3, .op 1 0 0), (5, .op 3 0 0), (6, .op 4 0 0), (27, .ds true (qf encGEntry a0.fEntries) (qc a0.fEntries) false), (28, .int .i64 (qc a0.fEntries : Int)), (29, .int .i64 x16)]) (τ := [.cells 0 [.nilI], .cells 0 [.os true 2 2 v15 0 (qc l14) false, .ds true (qf encGRaw r12) (qc r12) false], .cells v15 (qf encGValueEntry l14), .cells 0 (cellsGEntry y25), .cells 0 [.int .i64 y25.fTag, .os true 1 5 0 0 (qc ([] : List GValueValue)) false], .cells 0 (qf encGValueValue ([] : List GValueValue))]) .s ?_
   refine ze fun Z28 hZ28 => ?_
   refine rg tok [2, 3, 6, 27, 28, 29, 37, 38, 39] fun K hK => ?_
   simp only [go_sem, qb, qa, qd]
   apply hK
   refine zj ?_
   refine xh 37 fun hb35 => ?_
   replace hb35 : qc y25.fTrees ≤ 9223372036854775807 := hb35.1
   refine zB (fun m L τ => ∃ (p35 q35 : List GTree) (x31 : Int) (l29 : List GValueValue) (v30 : Nat), m = qc q35 ∧ L = [(2, .op 0 0 0), (3, .op 1 0 0), (6, .op 3 0 0), (27, .ds true (qf encGEntry a0.fEntries) (qc a0.fEntries) false), (28, .int .i64 (qc a0.fEntries : Int)), (29, .int .i64 x16), (37, .ds true (qf encGTree y25.fTrees) (qc y25.fTrees) false), (38, .int .i64 (qc y25.fTrees : Int)), (39, .int .i64 x31)] ∧ τ = ([.cells 0 [.nilI], .cells 0 [.os true 2 2 v15 0 (qc l14) false, .ds true (qf encGRaw r12) (qc r12) false], .cells v15 (qf encGValueEntry l14), .cells 0 [.int .i64 y25.fTag, .os true 1 4 v30 0 (qc l29) false], .cells v30 (qf encGValueValue l29)] : Store) ∧ y25.fTrees = p35 ++ q35 ∧ x31 = (qc p35 : Int) ∧ zM.l35 yn l14 x16 (zM.l20 yn a0 r12 k20) y25 q35 x31 l29 = some r) _ ⟨[], y25.fTrees, 0, ([] : List GValueValue), 0, rfl, rfl, rfl, rfl, rfl, h⟩ (.t [0, 1, 2, 4, 5] false) ?_
   rintro m L τ ⟨p35, q35, x31, l29, v30, rfl, rfl, rfl, hE35, hi35, h⟩
   rcases q35 with _ | ⟨y35, q35⟩
   · have hz35 := yC hE35 hi35
     simp only [zM.l35] at h
     refine rg tok [2, 3, 6, 27, 28, 29, 37, 38, 39, 40] fun K hK => ?_
     simp only [go_sem, qb, qa, hz35]
     apply hK
     refine ze fun Z36 hZ36 => ?_
     refine zx rfl ?_
     refine zJ ?_
     apply hZ28
     obtain ⟨_u37, hu37, h⟩ := bind_some h
     have gu37 := yq hu37
     have f38 := (zE E190.len l14)
     refine rdE [2, 3, 27, 28, 29] fun K hK => ?_
     refine DW.start (T := tab) [.any, .any, .any, .any, .own 1 [], .at [], .eff, .eff, .any, .any, .eff] [(1, [])] ?_
     refine DW.runN tok 8 ?_
     simp only [go_sem, qb, qe, qa, qd, qs, zO, z7, q7, qX, true_and, uf, yh, zU, yk, gu37, f38, yG, ud, q5, AV.one, qU, qB, qk, ql, qn, qH]
     refine DW.runN tok 3 ?_
     simp only [go_sem, qb, qe, qa, qd, qk, ql, qn]
     refine DW.fin tok (by decide +kernel) rfl ?_
     simp only [zd, upd, qa, reduceIte, zk, zo]
     apply hK
     apply hZ24
     refine rgE tok [2, 3, 27, 28, 29] fun K hK => ?_
     simp only [go_sem, qb, qa]
     apply hK
     exact ⟨_, _, _, qw (0 + k20), ⟨k20, l14 ++ [(⟨y25.fTag, l29⟩ : GValueEntry)], IntKind.i64.wrap (x16 + 1), v15 + 1, rfl, rfl, rfl, h⟩, (.t [0, 1, 2] false)⟩
   obtain ⟨hz35, hw35, hx35, hE'35, hi'35⟩ := ye hE35 hi35 hb35
   simp only [zM.l35] at h
   refine rg tok [2, 3, 6, 27, 28, 29, 37, 38, 39, 40] fun K hK => ?_
   simp only [go_sem, qb, qa, hz35]
   apply hK
   refine ze fun Z39 hZ39 => ?_
   refine zA rfl ?_
   refine zf ?_
   apply hZ39
   refine ze fun Z40 hZ40 => ?_
   refine zj ?_
   have f41 := E90.idxS hx35
   have f42 := E90.loadS rfl rfl hx35
   refine rg tok [2, 3, 6, 8, 27, 28, 29, 37, 38, 39] fun K hK => ?_
   simp only [go_sem, qb, qe, qa, qd, cellsGTree, yp, f41, f42]
   apply hK
   obtain ⟨r43, hr43, h⟩ := bind_some h
   have f44 := Zm r43
   unfold AV.one at f44
   obtain ⟨_u45, hu45, h⟩ := bind_some h
   have gu45 := yq hu45
   have f46 := (zE E156.len l29)
   refine rdE [2, 3, 6, 27, 28, 29, 37, 38, 39] fun K hK => ?_
   refine DW.start (T := tab) [.any, .own 2 [], .at [], .eff, .eff, .eff, .any, .eff] [(2, [])] ?_
   refine DW.runN tok 3 ?_
   simp only [go_sem, qb, qe, qa, qd, encGValueValue, qk, ql, qn]
   refine DW.call rfl rfl rfl (ev_value_made y35 r43 hr43 _) ?_
   refine DW.runN tok 4 ?_
   simp only [go_sem, qb, qe, qa, qd, qs, zO, z7, q7, qX, true_and, uf, yh, zU, yk, encGValueValue, f44, gu45, f46, yG, ud, q5, AV.one, qU, qB, qk, ql, qn, qH]
   refine DW.fin tok (by decide +kernel) rfl ?_
   simp only [zd, upd, qa, reduceIte, zk, zo]
   apply hK
   apply hZ40
   refine rgE tok [2, 3, 6, 27, 28, 29, 37, 38, 39] fun K hK => ?_
   simp only [go_sem, qb, qa, hw35]
   apply hK
   exact ⟨_, _, _, qw q35.length, ⟨p35 ++ [y35], q35, x31 + 1, l29 ++ [r43], v30 + 1, rfl, rfl, rfl, hE'35, hi'35, h⟩, (.t [0, 1, 2, 3, 4] false)⟩
 rw [if_neg hc22] at h
 have t47 := eq_false hc22
 refine zJ ?_
 apply hZ13
 refine rg tok [2] fun K hK => ?_
 simp only [go_sem, qb, qe, qa, t47]
 apply hK
 refine zi ?_
 obtain rfl := Option.some.inj h
 exact yy
def zM : Nat → GTree → Option GValueValue
 | 0, _ => none
 | k + 1, a0 => zM.body (zM k) a0
theorem zM.all (k : Nat) : (∀ (a0 : GTree) (r : GValueValue), zM k a0 = some r → ACalls qh 97 [.agg (cellsGTree a0)] [] (fun r' _ => r' = .agg (encGValueValue r))) := by
 induction k with
 | zero => exact (fun a0 r h => by simp only [zM] at h; cases h)
 | succ k ih => exact (fun a0 r h => zM.step _ ih a0 r (by simpa only [zM] using h))
theorem zM.ev (k : Nat) (a0 : GTree) (r : GValueValue) (h : zM k a0 = some r) (σ : Store) : ACalls qh 97 [.agg (cellsGTree a0)] σ (fun r' σ' => r' = .agg (encGValueValue r) ∧ σ' = σ) :=
 ((zM.all k) a0 r h).c σ
def Zs (a0 : GTree) : Option (GValueValue × Bool) :=
 (wn a0).bind fun r2 => (if (!r2) = true then some (GValueValue.nil, false) else (zM rounds a0).bind fun r4 => some (r4, true))
theorem Zs.ok (a0 : GTree) (r : GValueValue × Bool) (h : Zs a0 = some r) : ACalls qh 57 [.agg (cellsGTree a0)] [] (fun r' _ => r' = .tup [.agg (encGValueValue r.1), .bool r.2]) := by
 refine zm (rs := [.cell 2 110, .tmp 3]) tok Tryz.func57 rfl Tryz.ntmps57 rfl Tryz.call57 (by simp) ?_
 refine zq [(0, .agg (cellsGTree a0))] ⟨rfl, trivial⟩ ?_
 unfold Zs at h
 refine rg tok [1, 2] fun K hK => ?_
 simp only [go_sem, qb, qa, qd, reduceCtorEq, cellsGTree]
 apply hK
 refine ze fun Z1 hZ1 => ?_
 refine rc [1, 2, 6] fun K hK => ?_
 obtain ⟨r2, hr2, h⟩ := bind_some h
 refine za tok 1 ?_
 simp only [go_sem, qb, qe, qa, qd]
 refine zh rfl rfl rfl (wn.ev a0 r2 hr2 _) ?_
 rintro _ _ ⟨rfl, rfl⟩
 refine za tok 1 ?_
 simp only [go_sem, qb, qa]
 refine zb ?_
 simp only [zd, upd, qa, reduceIte, zk, zo]
 apply hK
 refine zt (b := (!r2)) rfl (fun hc3 => ?_) (fun hc3 => ?_)
 · rw [if_pos hc3] at h
   refine rg tok [2, 3] fun K hK => ?_
   simp only [go_sem, qb, qe, qa]
   apply hK
   refine zi ?_
   obtain rfl := Option.some.inj h
   exact yy
 rw [xK hc3] at h
 refine zf ?_
 apply hZ1
 refine rc [2, 3] fun K hK => ?_
 obtain ⟨r4, hr4, h⟩ := bind_some h
 refine za tok 1 ?_
 simp only [go_sem, qb, qe, qa, qd]
 refine zh rfl rfl rfl (zM.ev rounds a0 r4 hr4 _) ?_
 rintro _ _ ⟨rfl, rfl⟩
 have f5 := Zm r4
 unfold AV.one at f5
 refine za tok 2 ?_
 simp only [go_sem, qb, qe, qa, encGValueValue, f5]
 refine zb ?_
 simp only [zd, upd, qa, reduceIte, zk, zo]
 apply hK
 refine zi ?_
 obtain rfl := Option.some.inj h
 exact yy
theorem Zs.ev (a0 : GTree) (r : GValueValue × Bool) (h : Zs a0 = some r) (σ : Store) : ACalls qh 57 [.agg (cellsGTree a0)] σ (fun r' σ' => r' = .tup [.agg (encGValueValue r.1), .bool r.2] ∧ σ' = σ) :=
 (Zs.ok a0 r h).c σ
def yA (a0 : GValueValue) : Option GValueNode :=
 (match a0 with | .nil => none | .num n2 => none | .str s2 => none | .node e2 r2 => some (⟨e2, r2⟩ : GValueNode))
theorem yA.ok (a0 : GValueValue) (r : GValueNode) (h : yA a0 = some r) : ACalls qh 59 [.agg (encGValueValue a0)] [] (fun r' _ => r' = .dp (encGValueNode r) 0) := by
 refine zm (rs := [.tmp 2]) tok Tryz.func59 rfl Tryz.ntmps59 rfl Tryz.call59 (by simp) ?_
 refine zq [(0, .agg (encGValueValue a0))] ⟨rfl, trivial⟩ ?_
 unfold yA at h
 have f1 := Zm a0
 unfold AV.one at f1
 refine rg tok [1] fun K hK => ?_
 simp only [go_sem, qb, qa, reduceCtorEq, encGValueValue, f1]
 apply hK
 rcases a0 with _ | n2 | s2 | ⟨e2, r2⟩
 · dsimp only at h
   try simp only [vaM]
   cases h
 · dsimp only at h
   try simp only [vaL]
   cases h
 · dsimp only at h
   try simp only [vaK]
   cases h
 dsimp only at h
 try simp only [Y6]
 refine rg tok [2] fun K hK => ?_
 simp only [go_sem, qb, qa, xL, xQ, TypeDesc.isIface]
 apply hK
 refine zi ?_
 obtain rfl := Option.some.inj h
 exact yy
theorem yA.ev (a0 : GValueValue) (r : GValueNode) (h : yA a0 = some r) (σ : Store) : ACalls qh 59 [.agg (encGValueValue a0)] σ (fun r' σ' => r' = .dp (encGValueNode r) 0 ∧ σ' = σ) :=
 (yA.ok a0 r h).c σ
def wr (a0 : GValueNode) : Option (List GRaw) :=
 (yK a0.frest).bind fun r1 => some r1
theorem wr.own (a0 : GValueNode) (r : List GRaw) (h : wr a0 = some r) : ACalls qh 98 [.dp (encGValueNode a0) 0] [] (fun r' σ' => r' = .os true 4 0 0 0 (qc r) false ∧ σ' = [.cells 0 (qf encGRaw r)]) := by
 refine ACalls.own0 (by simp only [push_cast]) ?_
 refine ZH (rs := [.tmp 2]) tok Tryz.func98 rfl Tryz.ntmps98 rfl Tryz.call98 (by simp) ?_
 refine zq [(0, .dp (encGValueNode a0) 0)] ⟨rfl, trivial⟩ ?_
 unfold wr at h
 refine rg tok [0] fun K hK => ?_
 simp only [go_sem, qb, reduceCtorEq]
 apply hK
 refine rc [2] fun K hK => ?_
 obtain ⟨r1, hr1, h⟩ := bind_some h
 refine za tok 4 ?_
 simp only [go_sem, qb, qa, qd, reduceCtorEq, encGValueNode, XM]
 refine zh rfl rfl rfl (@id (ACalls qh 135 [.ds true (qf encGRaw a0.frest) (qc a0.frest) false] [] (fun r' σ' => r' = .os true 4 0 0 0 (qc r1) false ∧ σ' = [.cells 0 (qf encGRaw r1)])) ((yK.own a0.frest r1 hr1).ownAt0 (by simp only [push_cast]) (by simp only [push_cast]) _)) ?_
 rintro _ _ ⟨rfl, rfl⟩
 refine za tok 1 ?_
 simp only [go_sem, qb, qa, reduceCtorEq]
 refine zb ?_
 simp only [zd, upd, qa, reduceIte, zk, zo]
 apply hK
 refine zi ?_
 obtain rfl := Option.some.inj h
 simp only [Zl, yP, y1, xJ, exists_eq_left', go_sem]
 refine ⟨0, 0, by simp, ?_, ?_⟩
 · first | rfl | (simp only [go_sem, qb, qe, qa, qd, qs, qF, reduceIte, reduceCtorEq, push_cast, if_true, qz, qn, qD, qv, qE, qJ, qR, qO, qL, qI, qx, zF, encGRaw] <;> rfl)
 first | rfl | (simp only [go_sem, push_cast, qv, zF] <;> rfl)
def zZ.l8 : List GValueEntry → Int → List Int → Option (List Int)
 | [], x4, l2 => some l2
 | y8 :: q8, x4, l2 => (Yi (qc l2 + 1) 8).bind fun _u14 => ((zZ.l8 q8) (x4 + 1) (l2 ++ [y8.ftag]))
def zZ (a0 : GValueNode) : Option (List Int) :=
 (zZ.l8 a0.fentries 0 ([] : List Int))
theorem zZ.own (a0 : GValueNode) (r : List Int) (h : zZ a0 = some r) : ACalls qh 99 [.dp (encGValueNode a0) 0] [] (fun r' σ' => r' = .os true 1 0 0 0 (qc r) false ∧ σ' = [.cells 0 (qf encI r)]) := by
 refine ACalls.own0 (by simp only [push_cast]) ?_
 refine ZH (rs := [.tmp 2]) tok Tryz.func99 rfl Tryz.ntmps99 rfl Tryz.call99 (by simp) ?_
 refine zq [(0, .dp (encGValueNode a0) 0)] ⟨rfl, trivial⟩ ?_
 unfold zZ at h
 refine rg tok [0] fun K hK => ?_
 simp only [go_sem, qb, reduceCtorEq]
 apply hK
 refine rg tok [0, 3] fun K hK => ?_
 simp only [go_sem, qb, reduceCtorEq]
 apply hK
 refine Zx 3 1 rfl ?_
 refine yg (L := [(0, .dp (encGValueNode a0) 0), (3, .os true 1 0 0 0 (qc ([] : List Int)) false)]) (τ := [.cells 0 (qf encI ([] : List Int))]) .s ?_
 refine ze fun Z1 hZ1 => ?_
 refine rg tok [3, 9, 10, 11] fun K hK => ?_
 simp only [go_sem, qb, qa, qd, reduceCtorEq, encGValueNode, XM]
 apply hK
 refine zj ?_
 refine xh 9 fun hb8 => ?_
 replace hb8 : qc a0.fentries ≤ 9223372036854775807 := hb8.1
 refine zB (fun m L τ => ∃ (p8 q8 : List GValueEntry) (x4 : Int) (l2 : List Int) (v3 : Nat), m = qc q8 ∧ L = [(3, .os true 1 0 v3 0 (qc l2) false), (9, .ds true (qf encGValueEntry a0.fentries) (qc a0.fentries) false), (10, .int .i64 (qc a0.fentries : Int)), (11, .int .i64 x4)] ∧ τ = ([.cells v3 (qf encI l2)] : Store) ∧ a0.fentries = p8 ++ q8 ∧ x4 = (qc p8 : Int) ∧ zZ.l8 q8 x4 l2 = some r) _ ⟨[], a0.fentries, 0, ([] : List Int), 0, rfl, rfl, rfl, rfl, rfl, h⟩ .s ?_
 rintro m L τ ⟨p8, q8, x4, l2, v3, rfl, rfl, rfl, hE8, hi8, h⟩
 rcases q8 with _ | ⟨y8, q8⟩
 · have hz8 := yC hE8 hi8
   simp only [zZ.l8] at h
   refine rg tok [3, 9, 10, 11, 12] fun K hK => ?_
   simp only [go_sem, qb, qa, hz8]
   apply hK
   refine ze fun Z9 hZ9 => ?_
   refine zx rfl ?_
   refine zJ ?_
   apply hZ1
   refine rg tok [2] fun K hK => ?_
   simp only [go_sem, qb, qa]
   apply hK
   refine zi ?_
   obtain rfl := Option.some.inj h
   simp only [Zl, yP, y1, xJ, exists_eq_left', go_sem]
   refine ⟨0, v3, by simp, ?_, ?_⟩
   · first | rfl | (simp only [go_sem, qb, qe, qa, qd, qs, qF, reduceIte, reduceCtorEq, push_cast, if_true, qz, qn, qD, qv, qE, qJ, qR, qO, qL, qI, qx, zF] <;> rfl)
   first | rfl | (simp only [go_sem, push_cast, qv, zF] <;> rfl)
 obtain ⟨hz8, hw8, hx8, hE'8, hi'8⟩ := ye hE8 hi8 hb8
 simp only [zZ.l8] at h
 refine rg tok [3, 9, 10, 11, 12] fun K hK => ?_
 simp only [go_sem, qb, qa, hz8]
 apply hK
 refine ze fun Z10 hZ10 => ?_
 refine zA rfl ?_
 refine zf ?_
 apply hZ10
 refine ze fun Z11 hZ11 => ?_
 refine zj ?_
 have f12 := E190.idxS hx8
 have f13 := E190.loadS rfl rfl hx8
 refine rg tok [3, 5, 9, 10, 11] fun K hK => ?_
 simp only [go_sem, qb, qe, qa, qd, cellsGValueEntry, xH, f12, f13]
 apply hK
 obtain ⟨_u14, hu14, h⟩ := bind_some h
 have gu14 := yq hu14
 have f15 := (zE E45.len l2)
 refine rgE tok [3, 9, 10, 11] fun K hK => ?_
 simp only [go_sem, qb, qe, qa, qd, qs, zO, z7, q7, qX, true_and, uf, yh, zU, yk, gu14, f15, yG, ud, q5, AV.one, qU, qB, qk, ql, qn, qH]
 apply hK
 apply hZ11
 refine rgE tok [3, 9, 10, 11] fun K hK => ?_
 simp only [go_sem, qb, qa, hw8]
 apply hK
 exact ⟨_, _, _, qw q8.length, ⟨p8 ++ [y8], q8, x4 + 1, l2 ++ [y8.ftag], v3 + 1, rfl, rfl, rfl, hE'8, hi'8, h⟩, (.t [0] false)⟩
theorem zZ.ok (a0 : GValueNode) (r : List Int) (h : zZ a0 = some r) : ACalls qh 99 [.dp (encGValueNode a0) 0] [] (fun r' _ => r' = .ds true (qf encI r) (qc r) false) :=
 (zZ.own a0 r h).ownData (zE E45.len r) (by simp only [push_cast])
theorem zZ.ev (a0 : GValueNode) (r : List Int) (h : zZ a0 = some r) (σ : Store) : ACalls qh 99 [.dp (encGValueNode a0) 0] σ (fun r' σ' => r' = .ds true (qf encI r) (qc r) false ∧ σ' = σ) :=
 (zZ.ok a0 r h).c σ
def wg (a0 : List GValueValue) : Option (List GValueValue) := (Yi (qc a0) 16).bind fun _ => some a0
theorem wg.own (a0 r : List GValueValue) (h : wg a0 = some r) : ACalls qh 136 [.ds true (qf encGValueValue a0) (qc a0) false] [] (fun r' σ' => r' = .os true 1 0 0 0 (qc r) false ∧ σ' = [.cells 0 (qf encGValueValue r)]) := by
 obtain ⟨_u, hu, h⟩ := bind_some h
 have gu := yq hu
 obtain rfl := Option.some.inj h
 have f1 := fun nl tt σ => xO E156.len a0 nl tt σ
 have f2 := zE E156.len a0
 have f3 := Zt encGValueValue a0
 refine vbz (rs := [.tmp 2]) tok Tryz.func136 rfl Tryz.ntmps136 rfl Tryz.call136 (by simp) ?_
 refine zq [(0, .ds true (qf encGValueValue a0) (qc a0) false)] ⟨rfl, trivial⟩ ?_
 refine rg tok [0] fun K hK => ?_
 simp only [go_sem, qb, reduceCtorEq]
 apply hK
 refine ze fun Z1 hZ1 => ?_
 refine rc [0, 4] fun K hK => ?_
 refine za tok 1 ?_
 simp only [go_sem, qb]
 refine X4 tok rfl rfl rfl rfl rfl rfl fun b hnil => ?_
 have hb : b = true → a0 = [] := fun hb => by
  have := hnil hb
  simp only [yk, go_sem, reduceCtorEq] at this
  exact List.eq_nil_of_length_eq_zero this
 clear hnil
 refine zb ?_
 simp only [zd, Z0, upd, qa, reduceIte, zk, zo]
 apply hK
 cases b
 · refine zx rfl ?_
   refine zf ?_
   apply hZ1
   refine rg tok [2] fun K hK => ?_
   by_cases h0 : qc a0 = 0
   · obtain rfl := List.eq_nil_of_length_eq_zero h0
     simp only [go_sem, qb, qa, reduceCtorEq, zO, z7, qX, ul, yh, zU, yk, yi, uj, ql, uy, ud]
     apply hK
     refine zi ?_
     simp only [Zl, yP, y1, xJ, exists_eq_left', go_sem]
     refine .inl ⟨0, true, by simp, ?_, ?_⟩
     · first | rfl | (simp only [go_sem, qb, qe, qa, qd, qs, qF, reduceIte, reduceCtorEq, Zc, wT, if_true] <;> rfl)
     first | rfl | (simp only [go_sem, qb, qe, qa, qd, qs, qF, reduceIte, reduceCtorEq, Yc, vaX, ZI, Ye, Yd, qv] <;> rfl)
   have h1 := eq_false h0
   simp only [go_sem, qb, qa, reduceCtorEq, zO, z7, qX, ul, yh, zU, yk, f1, f3, h1, gu, yG, qv, qB, uy]
   apply hK
   refine zi ?_
   simp only [Zl, yP, y1, xJ, exists_eq_left', go_sem, qd]
   refine .inl ⟨1, false, by simp, ?_, ?_⟩
   · first | rfl | (simp only [go_sem, qb, qe, qa, qd, qs, qF, reduceIte, reduceCtorEq, Zc, wT, if_true] <;> rfl)
   first | rfl | (simp only [go_sem, Yc, ZI, Ye, Yd, zF] <;> rfl)
 obtain rfl := hb rfl
 refine zA rfl ?_
 refine rg tok [2] fun K hK => ?_
 simp only [go_sem, qb, qa, reduceCtorEq]
 apply hK
 refine zi ?_
 simp only [Zl, yP, y1, xJ, exists_eq_left', go_sem]
 refine .inr ?_
 first | rfl | (simp only [go_sem, qb, qe, qa, qd, qs, qF, reduceIte, reduceCtorEq, YC, qv, qJ, qR, qx, qO] <;> rfl)
def yr.l4 (a1 : Int) : List GValueEntry → Int → Option (List GValueValue)
 | [], x2 => some ([] : List GValueValue)
 | y4 :: q4, x2 => (if y4.ftag = a1 then (wg y4.fl).bind fun r12 => some r12 else ((yr.l4 a1 q4) (x2 + 1)))
def yr (a0 : GValueNode) (a1 : Int) : Option (List GValueValue) :=
 (yr.l4 a1 a0.fentries 0)
theorem yr.ok (a0 : GValueNode) (a1 : Int) (r : List GValueValue) (h : yr a0 a1 = some r) : ACalls qh 100 [.dp (encGValueNode a0) 0, .int .i64 a1] [] (fun r' _ => r' = .ds true (qf encGValueValue r) (qc r) false) := by
 refine zm (rs := [.tmp 4]) tok Tryz.func100 rfl Tryz.ntmps100 rfl Tryz.call100 (by simp) ?_
 refine zq [(0, .dp (encGValueNode a0) 0), (1, .int .i64 a1)] ⟨rfl, rfl, trivial⟩ ?_
 unfold yr at h
 refine rg tok [0, 1] fun K hK => ?_
 simp only [go_sem, qb, qa, reduceCtorEq]
 apply hK
 refine ze fun Z1 hZ1 => ?_
 refine rg tok [1, 10, 11, 12] fun K hK => ?_
 simp only [go_sem, qb, qa, qd, reduceCtorEq, encGValueNode, XM]
 apply hK
 refine zj ?_
 refine xh 10 fun hb4 => ?_
 replace hb4 : qc a0.fentries ≤ 9223372036854775807 := hb4.1
 refine zB (fun m L τ => ∃ (p4 q4 : List GValueEntry) (x2 : Int), m = qc q4 ∧ L = [(1, .int .i64 a1), (10, .ds true (qf encGValueEntry a0.fentries) (qc a0.fentries) false), (11, .int .i64 (qc a0.fentries : Int)), (12, .int .i64 x2)] ∧ τ = ([] : Store) ∧ a0.fentries = p4 ++ q4 ∧ x2 = (qc p4 : Int) ∧ yr.l4 a1 q4 x2 = some r) _ ⟨[], a0.fentries, 0, rfl, rfl, rfl, rfl, rfl, h⟩ .s ?_
 rintro m L τ ⟨p4, q4, x2, rfl, rfl, rfl, hE4, hi4, h⟩
 rcases q4 with _ | ⟨y4, q4⟩
 · have hz4 := yC hE4 hi4
   simp only [yr.l4] at h
   refine rg tok [1, 10, 11, 12, 13] fun K hK => ?_
   simp only [go_sem, qb, qa, hz4]
   apply hK
   refine ze fun Z5 hZ5 => ?_
   refine zx rfl ?_
   refine zJ ?_
   apply hZ1
   refine rg tok [4] fun K hK => ?_
   simp only [go_sem, qb, qa]
   apply hK
   refine zi ?_
   obtain rfl := Option.some.inj h
   exact yy
 obtain ⟨hz4, hw4, hx4, hE'4, hi'4⟩ := ye hE4 hi4 hb4
 simp only [yr.l4] at h
 refine rg tok [1, 10, 11, 12, 13] fun K hK => ?_
 simp only [go_sem, qb, qa, hz4]
 apply hK
 refine ze fun Z6 hZ6 => ?_
 refine zA rfl ?_
 refine zf ?_
 apply hZ6
 refine ze fun Z7 hZ7 => ?_
 refine zj ?_
 have f8 := E190.idxS hx4
 have f9 := E190.loadS rfl rfl hx4
 refine rg tok [1, 6, 10, 11, 12] fun K hK => ?_
 simp only [go_sem, qb, qe, qa, qd, cellsGValueEntry, xH, f8, f9]
 apply hK
 refine rg tok [1, 6, 10, 11, 12, 19] fun K hK => ?_
 simp only [go_sem, qb, qa, qd]
 apply hK
 refine zI rfl (fun hc10 => ?_) (fun hc10 => ?_)
 · rw [if_pos hc10] at h
   have t11 := eq_true hc10
   refine rc [4] fun K hK => ?_
   obtain ⟨r12, hr12, h⟩ := bind_some h
   refine za tok 2 ?_
   simp only [go_sem, qb, qa, qd, t11]
   refine zh rfl rfl rfl (@id (ACalls qh 136 [.ds true (qf encGValueValue y4.fl) (qc y4.fl) false] [.cells 0 (cellsGValueEntry y4)] (fun r' σ' => r' = .os true 1 1 0 0 (qc r12) false ∧ σ' = [.cells 0 (cellsGValueEntry y4), .cells 0 (qf encGValueValue r12)])) ((wg.own y4.fl r12 hr12).ownAt0 (by simp only [push_cast]) (by simp only [push_cast]) _)) ?_
   rintro _ _ ⟨rfl, rfl⟩
   refine za tok 1 ?_
   simp only [go_sem, qb, qa]
   refine zb ?_
   simp only [zd, upd, qa, reduceIte, zk, zo]
   apply hK
   refine zi ?_
   obtain rfl := Option.some.inj h
   exact yy
 rw [if_neg hc10] at h
 have t13 := eq_false hc10
 refine zf ?_
 apply hZ7
 refine rgE tok [1, 10, 11, 12] fun K hK => ?_
 simp only [go_sem, qb, qa, hw4, t13]
 apply hK
 exact ⟨_, _, _, qw q4.length, ⟨p4 ++ [y4], q4, x2 + 1, rfl, rfl, rfl, hE'4, hi'4, h⟩, (.t [] false)⟩
theorem yr.ev (a0 : GValueNode) (a1 : Int) (r : List GValueValue) (h : yr a0 a1 = some r) (σ : Store) : ACalls qh 100 [.dp (encGValueNode a0) 0, .int .i64 a1] σ (fun r' σ' => r' = .ds true (qf encGValueValue r) (qc r) false ∧ σ' = σ) :=
 (yr.ok a0 a1 r h).c σ
def xx (a0 : GValueValue) : Int × Bool :=
 (match a0 with | .nil => (0, false) | .num n2 => (n2, true) | .str s2 => (0, false) | .node e2 r2 => (0, false))
theorem xx.ok (a0 : GValueValue) (r : Int × Bool) (h : xx a0 = r) : ACalls qh 155 [.agg (encGValueValue a0)] [] (fun r' _ => r' = .tup [.int .i64 r.1, .bool r.2]) := by
 refine zm (rs := [.tmp 2, .tmp 3]) tok Tryz.func155 rfl Tryz.ntmps155 rfl Tryz.call155 (by simp) ?_
 refine zq [(0, .agg (encGValueValue a0))] ⟨rfl, trivial⟩ ?_
 unfold xx at h
 have f1 := Zm a0
 unfold AV.one at f1
 refine rg tok [1] fun K hK => ?_
 simp only [go_sem, qb, qa, reduceCtorEq, encGValueValue, f1]
 apply hK
 rcases a0 with _ | n2 | s2 | ⟨e2, r2⟩
 · dsimp only at h
   try simp only [vaM]
   refine rg tok [4, 5] fun K hK => ?_
   simp only [go_sem, qb, qa, qd, xL, xQ, TypeDesc.isIface]
   apply hK
   refine rg tok [2, 3] fun K hK => ?_
   simp only [go_sem, qb, qa]
   apply hK
   refine zi ?_
   obtain rfl := h
   exact yy
 · dsimp only at h
   try simp only [vaL]
   refine rg tok [4, 5] fun K hK => ?_
   simp only [go_sem, qb, qa, qd, xL, xQ, TypeDesc.isIface]
   apply hK
   refine rg tok [2, 3] fun K hK => ?_
   simp only [go_sem, qb, qa]
   apply hK
   refine zi ?_
   obtain rfl := h
   exact yy
 · dsimp only at h
   try simp only [vaK]
   refine rg tok [4, 5] fun K hK => ?_
   simp only [go_sem, qb, qa, qd, xL, xQ, TypeDesc.isIface]
   apply hK
   refine rg tok [2, 3] fun K hK => ?_
   simp only [go_sem, qb, qa]
   apply hK
   refine zi ?_
   obtain rfl := h
   exact yy
 dsimp only at h
 try simp only [Y6]
 refine rg tok [4, 5] fun K hK => ?_
 simp only [go_sem, qb, qa, qd, xL, xQ, TypeDesc.isIface]
 apply hK
 refine rg tok [2, 3] fun K hK => ?_
 simp only [go_sem, qb, qa]
 apply hK
 refine zi ?_
 obtain rfl := h
 exact yy
theorem xx.ev (a0 : GValueValue) (r : Int × Bool) (h : xx a0 = r) (σ : Store) : ACalls qh 155 [.agg (encGValueValue a0)] σ (fun r' σ' => r' = .tup [.int .i64 r.1, .bool r.2] ∧ σ' = σ) :=
 (xx.ok a0 r h).c σ
def xw (a0 : GValueValue) : List UInt8 × Bool :=
 (match a0 with | .nil => ([], false) | .num n2 => ([], false) | .str s2 => (s2, true) | .node e2 r2 => ([], false))
theorem xw.ok (a0 : GValueValue) (r : List UInt8 × Bool) (h : xw a0 = r) : ACalls qh 156 [.agg (encGValueValue a0)] [] (fun r' _ => r' = .tup [.str r.1, .bool r.2]) := by
 refine zm (rs := [.tmp 2, .tmp 3]) tok Tryz.func156 rfl Tryz.ntmps156 rfl Tryz.call156 (by simp) ?_
 refine zq [(0, .agg (encGValueValue a0))] ⟨rfl, trivial⟩ ?_
 unfold xw at h
 have f1 := Zm a0
 unfold AV.one at f1
 refine rg tok [1] fun K hK => ?_
 simp only [go_sem, qb, qa, reduceCtorEq, encGValueValue, f1]
 apply hK
 rcases a0 with _ | n2 | s2 | ⟨e2, r2⟩
 · dsimp only at h
   try simp only [vaM]
   refine rg tok [4, 5] fun K hK => ?_
   simp only [go_sem, qb, qa, qd, xL, xQ, TypeDesc.isIface]
   apply hK
   refine rg tok [2, 3] fun K hK => ?_
   simp only [go_sem, qb, qa]
   apply hK
   refine zi ?_
   obtain rfl := h
   exact yy
 · dsimp only at h
   try simp only [vaL]
   refine rg tok [4, 5] fun K hK => ?_
   simp only [go_sem, qb, qa, qd, xL, xQ, TypeDesc.isIface]
   apply hK
   refine rg tok [2, 3] fun K hK => ?_
   simp only [go_sem, qb, qa]
   apply hK
   refine zi ?_
   obtain rfl := h
   exact yy
 · dsimp only at h
   try simp only [vaK]
   refine rg tok [4, 5] fun K hK => ?_
   simp only [go_sem, qb, qa, qd, xL, xQ, TypeDesc.isIface]
   apply hK
   refine rg tok [2, 3] fun K hK => ?_
   simp only [go_sem, qb, qa]
   apply hK
   refine zi ?_
   obtain rfl := h
   exact yy
 dsimp only at h
 try simp only [Y6]
 refine rg tok [4, 5] fun K hK => ?_
 simp only [go_sem, qb, qa, qd, xL, xQ, TypeDesc.isIface]
 apply hK
 refine rg tok [2, 3] fun K hK => ?_
 simp only [go_sem, qb, qa]
 apply hK
 refine zi ?_
 obtain rfl := h
 exact yy
theorem xw.ev (a0 : GValueValue) (r : List UInt8 × Bool) (h : xw a0 = r) (σ : Store) : ACalls qh 156 [.agg (encGValueValue a0)] σ (fun r' σ' => r' = .tup [.str r.1, .bool r.2] ∧ σ' = σ) :=
 (xw.ok a0 r h).c σ
def xS (a0 : GValueValue) : Option GValueValue :=
 bnd (xx a0) fun r3 => (if r3.2 = true then some (GValueValue.num r3.1) else bnd (xw a0) fun r6 => (if r6.2 = true then some (GValueValue.str r6.1) else (yA a0).bind fun r8 => some (GValueValue.node r8.fentries r8.frest)))
theorem xS.ok (a0 : GValueValue) (r : GValueValue) (h : xS a0 = some r) : ACalls qh 137 [.agg (encGValueValue a0)] [] (fun r' _ => r' = anyV r) := by
 refine zm (rs := [.tmp 2]) tok Tryz.func137 rfl Tryz.ntmps137 rfl Tryz.call137 (by simp) ?_
 refine zq [(0, .agg (encGValueValue a0))] ⟨rfl, trivial⟩ ?_
 unfold xS at h
 have f1 := Zm a0
 unfold AV.one at f1
 refine rg tok [1] fun K hK => ?_
 simp only [go_sem, qb, qa, reduceCtorEq, encGValueValue, f1]
 apply hK
 refine ze fun Z2 hZ2 => ?_
 refine rc [1, 3, 4] fun K hK => ?_
 obtain ⟨r3, hr3, h⟩ := zW h
 refine za tok 1 ?_
 simp only [go_sem, qb, qe]
 refine zh rfl rfl rfl (xx.ev a0 r3 hr3 _) ?_
 rintro _ _ ⟨rfl, rfl⟩
 refine za tok 5 ?_
 simp only [go_sem, qb, qa, qd]
 refine zb ?_
 simp only [zd, upd, qa, reduceIte, zk, zo]
 apply hK
 refine rg tok [1, 3, 12] fun K hK => ?_
 simp only [go_sem, qb, qa]
 apply hK
 refine zt (b := r3.2) rfl (fun hc4 => ?_) (fun hc4 => ?_)
 · rw [if_pos hc4] at h
   refine rg tok [2] fun K hK => ?_
   simp only [go_sem, qb, qa]
   apply hK
   refine zi ?_
   obtain rfl := Option.some.inj h
   exact yy
 rw [xK hc4] at h
 refine zf ?_
 apply hZ2
 refine ze fun Z5 hZ5 => ?_
 refine rc [1, 5, 6] fun K hK => ?_
 obtain ⟨r6, hr6, h⟩ := zW h
 refine za tok 1 ?_
 simp only [go_sem, qb, qe, qa]
 refine zh rfl rfl rfl (xw.ev a0 r6 hr6 _) ?_
 rintro _ _ ⟨rfl, rfl⟩
 refine za tok 5 ?_
 simp only [go_sem, qb, qa, qd]
 refine zb ?_
 simp only [zd, upd, qa, reduceIte, zk, zo]
 apply hK
 refine rg tok [1, 5, 20] fun K hK => ?_
 simp only [go_sem, qb, qa]
 apply hK
 refine zt (b := r6.2) rfl (fun hc7 => ?_) (fun hc7 => ?_)
 · rw [if_pos hc7] at h
   refine rg tok [2] fun K hK => ?_
   simp only [go_sem, qb, qa]
   apply hK
   refine zi ?_
   obtain rfl := Option.some.inj h
   exact yy
 rw [xK hc7] at h
 refine zf ?_
 apply hZ5
 refine rc [2] fun K hK => ?_
 obtain ⟨r8, hr8, h⟩ := bind_some h
 refine za tok 1 ?_
 simp only [go_sem, qb, qe, qa]
 refine zh rfl rfl rfl (yA.ev a0 r8 hr8 _) ?_
 rintro _ _ ⟨rfl, rfl⟩
 refine za tok 2 ?_
 simp only [go_sem, qb, qa]
 refine zb ?_
 simp only [zd, upd, qa, reduceIte, zk, zo]
 apply hK
 refine zi ?_
 obtain rfl := Option.some.inj h
 exact yy
theorem xS.ev (a0 : GValueValue) (r : GValueValue) (h : xS a0 = some r) (σ : Store) : ACalls qh 137 [.agg (encGValueValue a0)] σ (fun r' σ' => r' = anyV r ∧ σ' = σ) :=
 (xS.ok a0 r h).c σ
def xd.l9 : Nat → List UInt8 → Int → Option (List UInt8)
 | 0, _, _ => none
 | k9 + 1, l3, x5 => (if 128 ≤ x5 then (Yi (qc l3 + 1) 1).bind fun _u14 => ((xd.l9 k9) (l3 ++ [uc (qK (IntKind.u8.wrap ((uk (qy 8 (IntKind.u8.wrap x5) ||| qy 8 128) : Nat) : Int)))]) (Int.fdiv x5 (2 ^ (min (qK 7) 64)))) else (Yi (qc l3 + 1) 1).bind fun _u18 => some (l3 ++ [uc (qK (IntKind.u8.wrap x5))]))
def xd (a0 : List UInt8) (a1 : Int) : Option (List UInt8) :=
 (if 128 ≤ a1 then (Yi (qc a0 + 1) 1).bind fun _u24 => (xd.l9 rounds (a0 ++ [uc (qK (IntKind.u8.wrap ((uk (qy 8 (IntKind.u8.wrap a1) ||| qy 8 128) : Nat) : Int)))]) (Int.fdiv a1 (2 ^ (min (qK 7) 64)))) else (Yi (qc a0 + 1) 1).bind fun _u28 => some (a0 ++ [uc (qK (IntKind.u8.wrap a1))]))
theorem xd.own (a0 : List UInt8) (a1 : Int) (r : List UInt8) (h : xd a0 a1 = some r) : ACalls qh 89 [.ds true (qf encB a0) (qc a0) false, .int .u64 a1] [] (fun r' σ' => r' = .os true 1 0 0 0 (qc r) false ∧ σ' = [.cells 0 (qf encB r)]) := by
 refine ACalls.own0 (by simp only [push_cast]) ?_
 refine ZH (rs := [.tmp 4]) tok Tryz.func89 rfl Tryz.ntmps89 rfl Tryz.call89 (by simp) ?_
 refine zq [(0, .ds true (qf encB a0) (qc a0) false), (1, .int .u64 a1)] ⟨rfl, rfl, trivial⟩ ?_
 unfold xd at h
 refine rg tok [0, 1] fun K hK => ?_
 simp only [go_sem, qb, qa, reduceCtorEq]
 apply hK
 have f1 := E34.sl_tight a0 .i64 .i64
 refine rg tok [0, 1] fun K hK => ?_
 simp only [go_sem, qb, qa, reduceCtorEq, f1]
 apply hK
 refine ze fun Z2 hZ2 => ?_
 refine zj ?_
 refine awp_loopS1 (fun m L τ => ∃ (k9 : Nat) (l3 : List UInt8) (x5 : Int) (v4 : Nat), m = 0 + k9 ∧ L = [(0, .os true 1 0 v4 0 (qc l3) false), (1, .int .u64 x5)] ∧ τ = ([.cells v4 (qf encB l3)] : Store) ∧ xd.l9 k9 l3 x5 = some r) (rounds + 1) ?_ ?_
 · refine ze fun Z20 hZ20 => ?_
   refine rg tok [0, 1, 12] fun K hK => ?_
   simp only [go_sem, qb, qa, reduceCtorEq]
   apply hK
   refine zI rfl (fun hc21 => ?_) (fun hc21 => ?_)
   · rw [if_pos hc21] at h
     have t22 := eq_true hc21
     refine zf ?_
     apply hZ20
     refine zj ?_
     have f23 := xM (T := tab) (src := 140) (dst := 5) rfl rfl rfl
     obtain ⟨_u24, hu24, h⟩ := bind_some h
     have gu24 := yq hu24
     have f25 := app_tight E34.len a0 (m := 1) (by decide)
     refine rg tok [0, 1] fun K hK => ?_
     simp only [go_sem, qb, qe, qa, qs, reduceCtorEq, zO, z7, q7, qX, true_and, uf, yh, yk, t22, f23, gu24, f25, yG, ud, q5, AV.one, qU, qB, qk, ql, qn, qH]
     apply hK
     refine yg (L := [(0, .os true 1 1 0 0 (qc (a0 ++ [uc (qK (IntKind.u8.wrap ((uk (qy 8 (IntKind.u8.wrap a1) ||| qy 8 128) : Nat) : Int)))])) false), (1, .int .u64 a1)]) (τ := [.cells 0 [.int .u8 (IntKind.u8.wrap ((uk (qy 8 (IntKind.u8.wrap a1) ||| qy 8 128) : Nat) : Int))], .cells 0 (qf encB (a0 ++ [uc (qK (IntKind.u8.wrap ((uk (qy 8 (IntKind.u8.wrap a1) ||| qy 8 128) : Nat) : Int)))]))]) (.same (by first | exact ⟨rfl, rfl, trivial⟩ | rfl | (simp only [go_sem, reduceCtorEq, Fits, qi, qk, ql, qn, and_self] <;> rfl)) (by first | exact ⟨rfl, rfl, trivial⟩ | rfl | (simp only [go_sem, encB, qY, qT, uj, qA, u8_wrap] <;> rfl))) ?_
     refine rgE tok [0, 1] fun K hK => ?_
     simp only [go_sem, qb, qa, reduceCtorEq, ZZ, Int.reduceLT]
     apply hK
     exact ⟨_, _, _, (Nat.lt_succ_of_le (Nat.le_of_eq (qn rounds))), ⟨rounds, a0 ++ [uc (qK (IntKind.u8.wrap ((uk (qy 8 (IntKind.u8.wrap a1) ||| qy 8 128) : Nat) : Int)))], Int.fdiv a1 (2 ^ (min (qK 7) 64)), 0, rfl, rfl, rfl, h⟩, (.t [1] false)⟩
   rw [if_neg hc21] at h
   have t26 := eq_false hc21
   refine zJ ?_
   apply hZ2
   have f27 := xM (T := tab) (src := 140) (dst := 5) rfl rfl rfl
   obtain ⟨_u28, hu28, h⟩ := bind_some h
   have gu28 := yq hu28
   have f29 := app_tight E34.len a0 (m := 1) (by decide)
   refine rg tok [4] fun K hK => ?_
   simp only [go_sem, qb, qe, qa, qs, reduceCtorEq, zO, z7, q7, qX, true_and, uf, yh, yk, t26, f27, gu28, f29, yG, ud, q5, AV.one, qU, qB, qk, ql, qn, qH]
   apply hK
   refine yg (L := [(4, .os true 1 1 0 0 (qc (a0 ++ [uc (qK (IntKind.u8.wrap a1))])) false)]) (τ := [.cells 0 [.int .u8 (IntKind.u8.wrap a1)], .cells 0 (qf encB (a0 ++ [uc (qK (IntKind.u8.wrap a1))]))]) (.same (by first | exact ⟨rfl, trivial⟩ | rfl | (simp only [go_sem, Fits, qi, qk, ql, qn, and_self] <;> rfl)) (by first | exact ⟨rfl, trivial⟩ | rfl | (simp only [go_sem, encB, qY, qT, uj, qA, u8_wrap] <;> rfl))) ?_
   refine zi ?_
   obtain rfl := Option.some.inj h
   simp only [Zl, yP, y1, xJ, exists_eq_left', go_sem, qd]
   refine ⟨1, 0, by simp, ?_, ?_⟩
   · first | rfl | (simp only [go_sem, qb, qe, qa, qd, qs, qF, reduceIte, reduceCtorEq, push_cast, if_true, qz, qn, qD, qv, qE, qJ, qR, qO, qL, qI, qx, zF] <;> rfl)
   first | rfl | (simp only [go_sem, push_cast, qv, zF] <;> rfl)
 clear h
 rintro m L τ ⟨k9, l3, x5, v4, rfl, rfl, rfl, h⟩
 rcases k9 with _ | k9
 · cases h
 simp only [xd.l9] at h
 refine ze fun Z10 hZ10 => ?_
 refine rg tok [0, 1, 12] fun K hK => ?_
 simp only [go_sem, qb, qa, reduceCtorEq]
 apply hK
 refine zI rfl (fun hc11 => ?_) (fun hc11 => ?_)
 · rw [if_pos hc11] at h
   have t12 := eq_true hc11
   refine zf ?_
   apply hZ10
   refine zj ?_
   have f13 := xM (T := tab) (src := 140) (dst := 5) rfl rfl rfl
   obtain ⟨_u14, hu14, h⟩ := bind_some h
   have gu14 := yq hu14
   have f15 := (zE E34.len l3)
   refine rg tok [0, 1] fun K hK => ?_
   simp only [go_sem, qb, qe, qa, qs, reduceCtorEq, zO, z7, q7, qX, true_and, uf, yh, zU, yk, t12, f13, gu14, f15, yG, ud, q5, AV.one, qU, qB, qk, ql, qn, qH]
   apply hK
   refine yg (L := [(0, .os true 1 0 (v4 + 1) 0 (qc (l3 ++ [uc (qK (IntKind.u8.wrap ((uk (qy 8 (IntKind.u8.wrap x5) ||| qy 8 128) : Nat) : Int)))])) false), (1, .int .u64 x5)]) (τ := [.cells (v4 + 1) (qf encB (l3 ++ [uc (qK (IntKind.u8.wrap ((uk (qy 8 (IntKind.u8.wrap x5) ||| qy 8 128) : Nat) : Int)))])), .cells 0 [.int .u8 (IntKind.u8.wrap ((uk (qy 8 (IntKind.u8.wrap x5) ||| qy 8 128) : Nat) : Int))]]) (.same (by first | exact ⟨rfl, rfl, trivial⟩ | rfl | (simp only [go_sem, reduceCtorEq, Fits, qi, qk, ql, qn, and_self] <;> rfl)) (by first | exact ⟨rfl, rfl, trivial⟩ | rfl | (simp only [go_sem, encB, qY, qT, uj, qA, u8_wrap] <;> rfl))) ?_
   refine rgE tok [0, 1] fun K hK => ?_
   simp only [go_sem, qb, qa, reduceCtorEq, ZZ, Int.reduceLT]
   apply hK
   exact ⟨_, _, _, qw (0 + k9), ⟨k9, l3 ++ [uc (qK (IntKind.u8.wrap ((uk (qy 8 (IntKind.u8.wrap x5) ||| qy 8 128) : Nat) : Int)))], Int.fdiv x5 (2 ^ (min (qK 7) 64)), v4 + 1, rfl, rfl, rfl, h⟩, (.t [0] false)⟩
 rw [if_neg hc11] at h
 have t16 := eq_false hc11
 refine zJ ?_
 apply hZ2
 have f17 := xM (T := tab) (src := 140) (dst := 5) rfl rfl rfl
 obtain ⟨_u18, hu18, h⟩ := bind_some h
 have gu18 := yq hu18
 have f19 := (zE E34.len l3)
 refine rg tok [4] fun K hK => ?_
 simp only [go_sem, qb, qe, qa, qs, reduceCtorEq, zO, z7, q7, qX, true_and, uf, yh, zU, yk, t16, f17, gu18, f19, yG, ud, q5, AV.one, qU, qB, qk, ql, qn, qH]
 apply hK
 refine yg (L := [(4, .os true 1 0 (v4 + 1) 0 (qc (l3 ++ [uc (qK (IntKind.u8.wrap x5))])) false)]) (τ := [.cells (v4 + 1) (qf encB (l3 ++ [uc (qK (IntKind.u8.wrap x5))])), .cells 0 [.int .u8 (IntKind.u8.wrap x5)]]) (.same (by first | exact ⟨rfl, trivial⟩ | rfl | (simp only [go_sem, Fits, qi, qk, ql, qn, and_self] <;> rfl)) (by first | exact ⟨rfl, trivial⟩ | rfl | (simp only [go_sem, encB, qY, qT, uj, qA, u8_wrap] <;> rfl))) ?_
 refine zi ?_
 obtain rfl := Option.some.inj h
 simp only [Zl, yP, y1, xJ, exists_eq_left', go_sem, qd]
 refine ⟨0, v4 + 1, by simp, ?_, ?_⟩
 · first | rfl | (simp only [go_sem, qb, qe, qa, qd, qs, qF, reduceIte, reduceCtorEq, push_cast, if_true, qz, qn, qD, qv, qE, qJ, qR, qO, qL, qI, qx, zF] <;> rfl)
 first | rfl | (simp only [go_sem, push_cast, qv, zF] <;> rfl)
theorem xd.ok (a0 : List UInt8) (a1 : Int) (r : List UInt8) (h : xd a0 a1 = some r) : ACalls qh 89 [.ds true (qf encB a0) (qc a0) false, .int .u64 a1] [] (fun r' _ => r' = .ds true (qf encB r) (qc r) false) :=
 (xd.own a0 a1 r h).ownData (zE E34.len r) (by simp only [push_cast])
theorem xd.ev (a0 : List UInt8) (a1 : Int) (r : List UInt8) (h : xd a0 a1 = some r) (σ : Store) : ACalls qh 89 [.ds true (qf encB a0) (qc a0) false, .int .u64 a1] σ (fun r' σ' => r' = .ds true (qf encB r) (qc r) false ∧ σ' = σ) :=
 (xd.ok a0 a1 r h).c σ
def Zq (a0 : Int) : Int :=
 IntKind.u64.wrap ((uk (qy 64 (IntKind.u64.wrap ((IntKind.u64.wrap a0) * 2 ^ (min (qK 1) 64))) ^^^ qy 64 (IntKind.u64.wrap (Int.fdiv a0 (2 ^ (min (qK 63) 64))))) : Nat) : Int)
theorem Zq.ok (a0 : Int) (r : Int) (h : Zq a0 = r) : ACalls qh 90 [.int .i64 a0] [] (fun r' _ => r' = .int .u64 r) := by
 refine zm (rs := [.tmp 2]) tok Tryz.func90 rfl Tryz.ntmps90 rfl Tryz.call90 (by simp) ?_
 refine zq [(0, .int .i64 a0)] ⟨rfl, trivial⟩ ?_
 unfold Zq at h
 refine rg tok [0] fun K hK => ?_
 simp only [go_sem, qb, reduceCtorEq]
 apply hK
 have f1 := xM (T := tab) (src := 3) (dst := 140) rfl rfl rfl
 have f2 := xM (T := tab) (src := 3) (dst := 140) rfl rfl rfl
 refine rg tok [2] fun K hK => ?_
 simp only [go_sem, qb, qa, reduceCtorEq, f1, ZZ, Int.reduceLT]
 apply hK
 refine zi ?_
 obtain rfl := h
 exact yy
theorem Zq.ev (a0 : Int) (r : Int) (h : Zq a0 = r) (σ : Store) : ACalls qh 90 [.int .i64 a0] σ (fun r' σ' => r' = .int .u64 r ∧ σ' = σ) :=
 (Zq.ok a0 r h).c σ
def Zp (a0 : List UInt8) (a1 : GRaw) : Option (List UInt8 × Bool) :=
 bnd (yD a1) fun r2 => (if (!r2) = true then some (a0, false) else (xd a0 (IntKind.u64.wrap (IntKind.i64.wrap ((IntKind.i64.wrap (2 * a1.fTag)) + a1.fWire)))).bind fun r5 => (if a1.fWire = 0 then bnd (Zq a1.fN) fun r9 => (xd r5 r9).bind fun r10 => some (r10, true) else (xd r5 (IntKind.u64.wrap (qc a1.fB : Int))).bind fun r13 => (Yi (qc r13 + qc a1.fB) 1).bind fun _u14 => some (r13 ++ a1.fB, true)))
theorem Zp.ok (a0 : List UInt8) (a1 : GRaw) (r : List UInt8 × Bool) (h : Zp a0 a1 = some r) : ACalls qh 52 [.ds true (qf encB a0) (qc a0) false, .agg (encGRaw a1)] [] (fun r' _ => r' = .tup [.ds true (qf encB r.1) (qc r.1) false, .bool r.2]) := by
 refine zm (rs := [.tmp 4, .tmp 5]) tok Tryz.func52 rfl Tryz.ntmps52 rfl Tryz.call52 (by simp) ?_
 refine zq [(0, .ds true (qf encB a0) (qc a0) false), (1, .agg (encGRaw a1))] ⟨rfl, rfl, trivial⟩ ?_
 unfold Zp at h
 refine rg tok [0, 3] fun K hK => ?_
 simp only [go_sem, qb, qa, qd, reduceCtorEq, encGRaw]
 apply hK
 refine ze fun Z1 hZ1 => ?_
 refine rc [0, 3, 9] fun K hK => ?_
 obtain ⟨r2, hr2, h⟩ := zW h
 refine za tok 1 ?_
 simp only [go_sem, qb, qe, qd, reduceCtorEq]
 refine zh rfl rfl rfl (yD.ev a1 r2 hr2 _) ?_
 rintro _ _ ⟨rfl, rfl⟩
 refine za tok 1 ?_
 simp only [go_sem, qb, qa, reduceCtorEq]
 refine zb ?_
 simp only [zd, upd, qa, reduceIte, zk, zo]
 apply hK
 refine zt (b := (!r2)) rfl (fun hc3 => ?_) (fun hc3 => ?_)
 · rw [if_pos hc3] at h
   refine rg tok [4, 5] fun K hK => ?_
   simp only [go_sem, qb, qa, reduceCtorEq]
   apply hK
   refine zi ?_
   obtain rfl := Option.some.inj h
   exact yy
 rw [xK hc3] at h
 refine zf ?_
 apply hZ1
 refine rc [3, 6] fun K hK => ?_
 have f4 := xM (T := tab) (src := 3) (dst := 140) rfl rfl rfl
 obtain ⟨r5, hr5, h⟩ := bind_some h
 refine za tok 8 ?_
 simp only [go_sem, qb, qa, qd, reduceCtorEq, f4]
 refine zh rfl rfl rfl (xd.ev a0 (IntKind.u64.wrap (IntKind.i64.wrap ((IntKind.i64.wrap (2 * a1.fTag)) + a1.fWire))) r5 hr5 _) ?_
 rintro _ _ ⟨rfl, rfl⟩
 refine za tok 1 ?_
 simp only [go_sem, qb, qa, reduceCtorEq]
 refine zb ?_
 simp only [zd, upd, qa, reduceIte, zk, zo]
 apply hK
 refine ze fun Z6 hZ6 => ?_
 refine rg tok [3, 6, 22] fun K hK => ?_
 simp only [go_sem, qb, qa, qd]
 apply hK
 refine zI rfl (fun hc7 => ?_) (fun hc7 => ?_)
 · rw [if_pos hc7] at h
   have t8 := eq_true hc7
   refine rc [4, 5] fun K hK => ?_
   obtain ⟨r9, hr9, h⟩ := zW h
   refine za tok 3 ?_
   simp only [go_sem, qb, qa, qd, t8]
   refine zh rfl rfl rfl (Zq.ev a1.fN r9 hr9 _) ?_
   rintro _ _ ⟨rfl, rfl⟩
   obtain ⟨r10, hr10, h⟩ := bind_some h
   refine zh rfl rfl rfl (xd.ev r5 r9 r10 hr10 _) ?_
   rintro _ _ ⟨rfl, rfl⟩
   refine za tok 2 ?_
   simp only [go_sem, qb, qa]
   refine zb ?_
   simp only [zd, upd, qa, reduceIte, zk, zo]
   apply hK
   refine zi ?_
   obtain rfl := Option.some.inj h
   exact yy
 rw [if_neg hc7] at h
 have t11 := eq_false hc7
 refine zf ?_
 apply hZ6
 have f12 := xM (T := tab) (src := 3) (dst := 140) rfl rfl rfl
 obtain ⟨r13, hr13, h⟩ := bind_some h
 obtain ⟨_u14, hu14, h⟩ := bind_some h
 have gu14 := yq hu14
 have f15 := (zE E34.len r13)
 refine rd [4, 5] fun K hK => ?_
 refine DW.start (T := tab) [.any, .any, .at [], .at [], .at [], .eff, .any, .own 1 [], .eff, .any, .any] [(1, [])] ?_
 refine DW.runN tok 5 ?_
 simp only [go_sem, qb, qa, qd, t11, f12, qk, ql, qn]
 refine DW.callS rfl rfl rfl (@id (ACalls qh 89 [.ds true (qf encB r5) (qc r5) false, .int .u64 (IntKind.u64.wrap (qc a1.fB : Int))] [.cells 0 [.int .i64 a1.fTag, .int .i64 a1.fWire, .int .i64 a1.fN, .str a1.fB]] (fun r' σ' => r' = .os true 1 1 0 0 (qc r13) false ∧ σ' = [.cells 0 [.int .i64 a1.fTag, .int .i64 a1.fWire, .int .i64 a1.fN, .str a1.fB], .cells 0 (qf encB r13)])) ((xd.own r5 (IntKind.u64.wrap (qc a1.fB : Int)) r13 hr13).ownAt0 (by simp only [push_cast]) (by simp only [push_cast]) _)) (vby (by simp only [go_sem, qe])) ?_
 refine DW.runN tok 5 ?_
 simp only [go_sem, qb, qe, qa, qd, yh, zU, yk, true_and, gu14, f15, srcCells_s, Xy, Zt, qk, ql, qn]
 refine DW.fin tok (by decide +kernel) rfl ?_
 simp only [zd, upd, qa, reduceIte, zk, zo]
 apply hK
 refine yg (L := [(4, .os true 1 1 (0 + 1) 0 (qc (r13 ++ a1.fB)) false), (5, .bool true)]) (τ := [.cells 0 [.int .i64 a1.fTag, .int .i64 a1.fWire, .int .i64 a1.fN, .str a1.fB], .cells (0 + 1) (qf encB (r13 ++ a1.fB))]) .s ?_
 refine zi ?_
 obtain rfl := Option.some.inj h
 exact yy
theorem Zp.ev (a0 : List UInt8) (a1 : GRaw) (r : List UInt8 × Bool) (h : Zp a0 a1 = some r) (σ : Store) : ACalls qh 52 [.ds true (qf encB a0) (qc a0) false, .agg (encGRaw a1)] σ (fun r' σ' => r' = .tup [.ds true (qf encB r.1) (qc r.1) false, .bool r.2] ∧ σ' = σ) :=
 (Zp.ok a0 a1 r h).c σ
def z8.l11 : List GRaw → Int → List UInt8 → Option (List UInt8 × Int)
 | [], x8, x7 => some (x7, 0)
 | y11 :: q11, x8, x7 => (Zp x7 y11).bind fun r17 => (if 4096 < (qc r17.1 : Int) then some (([] : List UInt8), 4) else ((z8.l11 q11) (x8 + 1) r17.1))
def z8.l4 (a0 : List GRaw) : List GRaw → Int → Option (List UInt8 × Int)
 | [], x2 => (z8.l11 a0 0 ([] : List UInt8))
 | y4 :: q4, x2 => bnd (yD y4) fun r25 => (if (!r25) = true then some (([] : List UInt8), 1) else ((z8.l4 a0 q4) (x2 + 1)))
def z8 (a0 : List GRaw) : Option (List UInt8 × Int) :=
 (z8.l4 a0 a0 0)
theorem z8.ok (a0 : List GRaw) (r : List UInt8 × Int) (h : z8 a0 = some r) : ACalls qh 26 [.ds true (qf encGRaw a0) (qc a0) false] [] (fun r' _ => r' = .tup [.ds true (qf encB r.1) (qc r.1) false, .int .i64 r.2]) := by
 refine zm (rs := [.tmp 2, .tmp 3]) tok Tryz.func26 rfl Tryz.ntmps26 rfl Tryz.call26 (by simp) ?_
 refine zq [(0, .ds true (qf encGRaw a0) (qc a0) false)] ⟨rfl, trivial⟩ ?_
 unfold z8 at h
 refine rg tok [0] fun K hK => ?_
 simp only [go_sem, qb, reduceCtorEq]
 apply hK
 refine ze fun Z1 hZ1 => ?_
 refine rg tok [0, 9, 10, 11] fun K hK => ?_
 simp only [go_sem, qb, qa, reduceCtorEq]
 apply hK
 refine zj ?_
 refine xh 0 fun hb4 => ?_
 replace hb4 : qc a0 ≤ 9223372036854775807 := hb4.1
 refine zB (fun m L τ => ∃ (p4 q4 : List GRaw) (x2 : Int), m = qc q4 ∧ L = [(0, .ds true (qf encGRaw a0) (qc a0) false), (9, .ds true (qf encGRaw a0) (qc a0) false), (10, .int .i64 (qc a0 : Int)), (11, .int .i64 x2)] ∧ τ = ([] : Store) ∧ a0 = p4 ++ q4 ∧ x2 = (qc p4 : Int) ∧ z8.l4 a0 q4 x2 = some r) _ ⟨[], a0, 0, rfl, rfl, rfl, rfl, rfl, h⟩ .s ?_
 rintro m L τ ⟨p4, q4, x2, rfl, rfl, rfl, hE4, hi4, h⟩
 rcases q4 with _ | ⟨y4, q4⟩
 · have hz4 := yC hE4 hi4
   simp only [z8.l4] at h
   refine rg tok [0, 9, 10, 11, 12] fun K hK => ?_
   simp only [go_sem, qb, qa, reduceCtorEq, hz4]
   apply hK
   refine ze fun Z5 hZ5 => ?_
   refine zx rfl ?_
   refine zJ ?_
   apply hZ1
   refine rg tok [0, 6] fun K hK => ?_
   simp only [go_sem, qb, qa, reduceCtorEq]
   apply hK
   refine ze fun Z6 hZ6 => ?_
   refine rg tok [6, 19, 20, 21] fun K hK => ?_
   simp only [go_sem, qb, qa, reduceCtorEq]
   apply hK
   refine zj ?_
   refine xh 19 fun hb11 => ?_
   replace hb11 : qc a0 ≤ 9223372036854775807 := hb11.1
   refine zB (fun m L τ => ∃ (p11 q11 : List GRaw) (x8 : Int) (x7 : List UInt8), m = qc q11 ∧ L = [(6, .ds true (qf encB x7) (qc x7) false), (19, .ds true (qf encGRaw a0) (qc a0) false), (20, .int .i64 (qc a0 : Int)), (21, .int .i64 x8)] ∧ τ = ([] : Store) ∧ a0 = p11 ++ q11 ∧ x8 = (qc p11 : Int) ∧ z8.l11 q11 x8 x7 = some r) _ ⟨[], a0, 0, ([] : List UInt8), rfl, rfl, rfl, rfl, rfl, h⟩ (.t [] true) ?_
   rintro m L τ ⟨p11, q11, x8, x7, rfl, rfl, rfl, hE11, hi11, h⟩
   rcases q11 with _ | ⟨y11, q11⟩
   · have hz11 := yC hE11 hi11
     simp only [z8.l11] at h
     refine rg tok [6, 19, 20, 21, 22] fun K hK => ?_
     simp only [go_sem, qb, qa, hz11]
     apply hK
     refine ze fun Z12 hZ12 => ?_
     refine zx rfl ?_
     refine zJ ?_
     apply hZ6
     refine rg tok [2, 3] fun K hK => ?_
     simp only [go_sem, qb, qa]
     apply hK
     refine zi ?_
     obtain rfl := Option.some.inj h
     exact yy
   obtain ⟨hz11, hw11, hx11, hE'11, hi'11⟩ := ye hE11 hi11 hb11
   simp only [z8.l11] at h
   refine rg tok [6, 19, 20, 21, 22] fun K hK => ?_
   simp only [go_sem, qb, qa, hz11]
   apply hK
   refine ze fun Z13 hZ13 => ?_
   refine zA rfl ?_
   refine zf ?_
   apply hZ13
   refine ze fun Z14 hZ14 => ?_
   refine zj ?_
   have f15 := E28.idxS hx11
   have f16 := E28.loadS rfl rfl hx11
   refine rg tok [6, 8, 19, 20, 21] fun K hK => ?_
   simp only [go_sem, qb, qe, qa, qd, encGRaw, f15, f16]
   apply hK
   refine rc [6, 19, 20, 21] fun K hK => ?_
   obtain ⟨r17, hr17, h⟩ := bind_some h
   refine za tok 2 ?_
   simp only [go_sem, qb, qe, qa, qd]
   refine zh rfl rfl rfl (Zp.ev x7 y11 r17 hr17 _) ?_
   rintro _ _ ⟨rfl, rfl⟩
   refine za tok 4 ?_
   simp only [go_sem, qb, qa, qd]
   refine zb ?_
   simp only [zd, upd, qa, reduceIte, zk, zo]
   apply hK
   refine rg tok [6, 19, 20, 21, 33] fun K hK => ?_
   simp only [go_sem, qb, qa]
   apply hK
   refine zI rfl (fun hc18 => ?_) (fun hc18 => ?_)
   · rw [if_pos hc18] at h
     have t19 := eq_true hc18
     refine rg tok [2, 3] fun K hK => ?_
     simp only [go_sem, qb, qa, t19]
     apply hK
     refine zi ?_
     obtain rfl := Option.some.inj h
     exact yy
   rw [if_neg hc18] at h
   have t20 := eq_false hc18
   refine zf ?_
   apply hZ14
   refine rgE tok [6, 19, 20, 21] fun K hK => ?_
   simp only [go_sem, qb, qa, hw11, t20]
   apply hK
   exact ⟨_, _, _, qw q11.length, ⟨p11 ++ [y11], q11, x8 + 1, r17.1, rfl, rfl, rfl, hE'11, hi'11, h⟩, (.t [] false)⟩
 obtain ⟨hz4, hw4, hx4, hE'4, hi'4⟩ := ye hE4 hi4 hb4
 simp only [z8.l4] at h
 refine rg tok [0, 9, 10, 11, 12] fun K hK => ?_
 simp only [go_sem, qb, qa, reduceCtorEq, hz4]
 apply hK
 refine ze fun Z21 hZ21 => ?_
 refine zA rfl ?_
 refine zf ?_
 apply hZ21
 refine ze fun Z22 hZ22 => ?_
 refine zj ?_
 have f23 := E28.idxS hx4
 have f24 := E28.loadS rfl rfl hx4
 refine rg tok [0, 5, 9, 10, 11] fun K hK => ?_
 simp only [go_sem, qb, qe, qa, qd, reduceCtorEq, encGRaw, f23, f24]
 apply hK
 refine rc [0, 9, 10, 11, 17] fun K hK => ?_
 obtain ⟨r25, hr25, h⟩ := zW h
 refine za tok 1 ?_
 simp only [go_sem, qb, qe, qa, qd, reduceCtorEq]
 refine zh rfl rfl rfl (yD.ev y4 r25 hr25 _) ?_
 rintro _ _ ⟨rfl, rfl⟩
 refine za tok 1 ?_
 simp only [go_sem, qb, qa, reduceCtorEq]
 refine zb ?_
 simp only [zd, upd, qa, reduceIte, zk, zo]
 apply hK
 refine zt (b := (!r25)) rfl (fun hc26 => ?_) (fun hc26 => ?_)
 · rw [if_pos hc26] at h
   refine rg tok [2, 3] fun K hK => ?_
   simp only [go_sem, qb, qa, reduceCtorEq]
   apply hK
   refine zi ?_
   obtain rfl := Option.some.inj h
   exact yy
 rw [xK hc26] at h
 refine zf ?_
 apply hZ22
 refine rgE tok [0, 9, 10, 11] fun K hK => ?_
 simp only [go_sem, qb, qa, reduceCtorEq, hw4]
 apply hK
 exact ⟨_, _, _, qw q4.length, ⟨p4 ++ [y4], q4, x2 + 1, rfl, rfl, rfl, hE'4, hi'4, h⟩, (.t [] false)⟩
theorem z8.ev (a0 : List GRaw) (r : List UInt8 × Int) (h : z8 a0 = some r) (σ : Store) : ACalls qh 26 [.ds true (qf encGRaw a0) (qc a0) false] σ (fun r' σ' => r' = .tup [.ds true (qf encB r.1) (qc r.1) false, .int .i64 r.2] ∧ σ' = σ) :=
 (z8.ok a0 r h).c σ
def y0.body (yL : GValueNode → Option (List UInt8 × Int)) (ya : Int → GValueValue → Option (GRaw × Int)) (yQ : GValueNode → Option (List GRaw × Int)) (a0 : GValueNode) : Option (List UInt8 × Int) :=
 (yQ a0).bind fun r1 => (if r1.2 = 0 then (z8 r1.1).bind fun r6 => some (r6.1, r6.2) else some (([] : List UInt8), r1.2))
theorem y0.step (yL : GValueNode → Option (List UInt8 × Int)) (ya : Int → GValueValue → Option (GRaw × Int)) (yQ : GValueNode → Option (List GRaw × Int)) (wP : ∀ (a0 : GValueNode) (r : List UInt8 × Int), yL a0 = some r → ACalls qh 138 [.dp (encGValueNode a0) 0] [] (fun r' _ => r' = .tup [.ds true (qf encB r.1) (qc r.1) false, .int .i64 r.2])) (Zf : ∀ (a0 : Int) (a1 : GValueValue) (r : GRaw × Int), ya a0 a1 = some r → ACalls qh 101 [.int .i64 a0, .agg (encGValueValue a1)] [] (fun r' _ => r' = .tup [.agg (encGRaw r.1), .int .i64 r.2])) (wY : ∀ (a0 : GValueNode) (r : List GRaw × Int), yQ a0 = some r → ACalls qh 58 [.dp (encGValueNode a0) 0] [] (fun r' _ => r' = .tup [.ds true (qf encGRaw r.1) (qc r.1) false, .int .i64 r.2])) (a0 : GValueNode) (r : List UInt8 × Int) (h : y0.body yL ya yQ a0 = some r) : ACalls qh 138 [.dp (encGValueNode a0) 0] [] (fun r' _ => r' = .tup [.ds true (qf encB r.1) (qc r.1) false, .int .i64 r.2]) := by
 have ev_encode_bytes := fun a0 r h σ => (wP a0 r h).c σ
 have ev_encode_raw := fun a0 a1 r h σ => (Zf a0 a1 r h).c σ
 have ev_encode_raws := fun a0 r h σ => (wY a0 r h).c σ
 refine zm (rs := [.tmp 2, .tmp 3]) tok Tryz.func138 rfl Tryz.ntmps138 rfl Tryz.call138 (by simp) ?_
 refine zq [(0, .dp (encGValueNode a0) 0)] ⟨rfl, trivial⟩ ?_
 unfold y0.body at h
 refine rg tok [0] fun K hK => ?_
 simp only [go_sem, qb, reduceCtorEq]
 apply hK
 refine rc [4, 5] fun K hK => ?_
 obtain ⟨r1, hr1, h⟩ := bind_some h
 refine za tok 1 ?_
 simp only [go_sem, qb]
 refine zh rfl rfl rfl (ev_encode_raws a0 r1 hr1 _) ?_
 rintro _ _ ⟨rfl, rfl⟩
 refine za tok 5 ?_
 simp only [go_sem, qb, qa, qd, reduceCtorEq]
 refine zb ?_
 simp only [zd, upd, qa, reduceIte, zk, zo]
 apply hK
 refine ze fun Z2 hZ2 => ?_
 refine rg tok [4, 5, 12] fun K hK => ?_
 simp only [go_sem, qb, qa]
 apply hK
 refine zI rfl (fun hc3 => ?_) (fun hc3 => ?_)
 · rw [if_neg hc3] at h
   have t4 := eq_false hc3
   refine rg tok [2, 3] fun K hK => ?_
   simp only [go_sem, qb, qa, t4]
   apply hK
   refine zi ?_
   obtain rfl := Option.some.inj h
   exact yy
 rw [if_pos hc3] at h
 have t5 := eq_true hc3
 refine zf ?_
 apply hZ2
 refine rc [2, 3] fun K hK => ?_
 obtain ⟨r6, hr6, h⟩ := bind_some h
 refine za tok 1 ?_
 simp only [go_sem, qb, qa, t5]
 refine zh rfl rfl rfl (z8.ev r1.1 r6 hr6 _) ?_
 rintro _ _ ⟨rfl, rfl⟩
 refine za tok 4 ?_
 simp only [go_sem, qb, qa, qd]
 refine zb ?_
 simp only [zd, upd, qa, reduceIte, zk, zo]
 apply hK
 refine zi ?_
 obtain rfl := Option.some.inj h
 exact yy
def yE.j3 (m1_2 : GRaw) : Option (GRaw × Int) :=
 (if 4096 < (qc m1_2.fB : Int) then some ((⟨0, 0, 0, []⟩ : GRaw), 4) else some (m1_2, 0))
def yE.body (yL : GValueNode → Option (List UInt8 × Int)) (ya : Int → GValueValue → Option (GRaw × Int)) (yQ : GValueNode → Option (List GRaw × Int)) (a0 : Int) (a1 : GValueValue) : Option (GRaw × Int) :=
 (xS a1).bind fun r8 => (match r8 with | .nil => (yE.j3 (⟨a0, 1, 0, []⟩ : GRaw)) | .num n9 => some ((⟨a0, 0, n9, []⟩ : GRaw), 0) | .str s9 => (yE.j3 (⟨a0, 1, 0, s9⟩ : GRaw)) | .node e9 r9 => (yL (⟨e9, r9⟩ : GValueNode)).bind fun r10 => (if r10.2 = 0 then (yE.j3 (⟨a0, 1, 0, r10.1⟩ : GRaw)) else some ((⟨0, 0, 0, []⟩ : GRaw), r10.2)))
theorem yE.step (yL : GValueNode → Option (List UInt8 × Int)) (ya : Int → GValueValue → Option (GRaw × Int)) (yQ : GValueNode → Option (List GRaw × Int)) (wP : ∀ (a0 : GValueNode) (r : List UInt8 × Int), yL a0 = some r → ACalls qh 138 [.dp (encGValueNode a0) 0] [] (fun r' _ => r' = .tup [.ds true (qf encB r.1) (qc r.1) false, .int .i64 r.2])) (Zf : ∀ (a0 : Int) (a1 : GValueValue) (r : GRaw × Int), ya a0 a1 = some r → ACalls qh 101 [.int .i64 a0, .agg (encGValueValue a1)] [] (fun r' _ => r' = .tup [.agg (encGRaw r.1), .int .i64 r.2])) (wY : ∀ (a0 : GValueNode) (r : List GRaw × Int), yQ a0 = some r → ACalls qh 58 [.dp (encGValueNode a0) 0] [] (fun r' _ => r' = .tup [.ds true (qf encGRaw r.1) (qc r.1) false, .int .i64 r.2])) (a0 : Int) (a1 : GValueValue) (r : GRaw × Int) (h : yE.body yL ya yQ a0 a1 = some r) : ACalls qh 101 [.int .i64 a0, .agg (encGValueValue a1)] [] (fun r' _ => r' = .tup [.agg (encGRaw r.1), .int .i64 r.2]) := by
 have ev_encode_bytes := fun a0 r h σ => (wP a0 r h).c σ
 have ev_encode_raw := fun a0 a1 r h σ => (Zf a0 a1 r h).c σ
 have ev_encode_raws := fun a0 r h σ => (wY a0 r h).c σ
 refine zm (rs := [.cell 4 62, .tmp 5]) tok Tryz.func101 rfl Tryz.ntmps101 rfl Tryz.call101 (by simp) ?_
 refine zq [(0, .int .i64 a0), (1, .agg (encGValueValue a1))] ⟨rfl, rfl, trivial⟩ ?_
 unfold yE.body at h
 have f1 := Zm a1
 unfold AV.one at f1
 refine rg tok [0, 3, 4] fun K hK => ?_
 simp only [go_sem, qb, qa, reduceCtorEq, encGValueValue, f1]
 apply hK
 refine rg tok [0, 3, 4, 6] fun K hK => ?_
 simp only [go_sem, qb, qe, qa, qd, reduceCtorEq]
 apply hK
 refine xN (fun L τ => ∃ (m1_2 : GRaw), L = [(4, .op 0 0 0), (6, .op 1 0 0)] ∧ τ = ([.cells 0 [.int .i64 0, .int .i64 0, .int .i64 0, .str []], .cells 0 [.int .i64 m1_2.fTag, .int .i64 m1_2.fWire, .int .i64 m1_2.fN, .str m1_2.fB]] : Store) ∧ yE.j3 m1_2 = some r) ?_ ?_
 · refine rc [0, 4, 6, 15] fun K hK => ?_
   obtain ⟨r8, hr8, h⟩ := bind_some h
   refine za tok 1 ?_
   simp only [go_sem, qb, qe, qa, reduceCtorEq]
   refine zh rfl rfl rfl (xS.ev a1 r8 hr8 _) ?_
   rintro _ _ ⟨rfl, rfl⟩
   refine zb ?_
   simp only [zd, Z0, upd, qa, reduceIte, zk, zo]
   apply hK
   refine zj ?_
   rcases r8 with _ | n9 | s9 | ⟨e9, r9⟩
   · dsimp only at h
     try simp only [anyV_nil]
     refine rg tok [0, 4, 6, 15, 17, 18] fun K hK => ?_
     simp only [go_sem, qb, qa, qd, reduceCtorEq, xL, xQ, TypeDesc.isIface]
     apply hK
     refine zx rfl ?_
     refine rg tok [4, 6, 15, 23, 24] fun K hK => ?_
     simp only [go_sem, qb, qa, qd, reduceCtorEq, xL, xQ, TypeDesc.isIface]
     apply hK
     refine zx rfl ?_
     refine rg tok [4, 6, 28, 29] fun K hK => ?_
     simp only [go_sem, qb, qa, qd, xL, xQ, TypeDesc.isIface]
     apply hK
     refine zx rfl ?_
     refine zf ?_
     exact ⟨_, _, ⟨(⟨a0, 1, 0, []⟩ : GRaw), rfl, rfl, h⟩, (.t [1, 2] false)⟩
   · dsimp only at h
     try simp only [anyV_num]
     refine rg tok [0, 4, 6, 15, 17, 18] fun K hK => ?_
     simp only [go_sem, qb, qa, qd, reduceCtorEq, xL, xQ, TypeDesc.isIface]
     apply hK
     refine zA rfl ?_
     refine rg tok [0, 4, 7] fun K hK => ?_
     simp only [go_sem, qb, qa, reduceCtorEq]
     apply hK
     refine rg tok [4, 5] fun K hK => ?_
     simp only [go_sem, qb, qe, qa, qd, reduceCtorEq]
     apply hK
     refine zi ?_
     obtain rfl := Option.some.inj h
     exact yy
   · dsimp only at h
     try simp only [anyV_str]
     refine rg tok [0, 4, 6, 15, 17, 18] fun K hK => ?_
     simp only [go_sem, qb, qa, qd, reduceCtorEq, xL, xQ, TypeDesc.isIface]
     apply hK
     refine zx rfl ?_
     refine rg tok [4, 6, 15, 23, 24] fun K hK => ?_
     simp only [go_sem, qb, qa, qd, reduceCtorEq, xL, xQ, TypeDesc.isIface]
     apply hK
     refine zA rfl ?_
     refine rg tok [4, 6, 8] fun K hK => ?_
     simp only [go_sem, qb, qa]
     apply hK
     refine rgE tok [4, 6] fun K hK => ?_
     simp only [go_sem, qb, qe, qa, qd]
     apply hK
     exact ⟨_, _, ⟨(⟨a0, 1, 0, s9⟩ : GRaw), rfl, rfl, h⟩, (.t [1, 2] false)⟩
   dsimp only at h
   try simp only [anyV_node]
   refine rg tok [0, 4, 6, 15, 17, 18] fun K hK => ?_
   simp only [go_sem, qb, qa, qd, reduceCtorEq, xL, xQ, TypeDesc.isIface]
   apply hK
   refine zx rfl ?_
   refine rg tok [4, 6, 15, 23, 24] fun K hK => ?_
   simp only [go_sem, qb, qa, qd, reduceCtorEq, xL, xQ, TypeDesc.isIface]
   apply hK
   refine zx rfl ?_
   refine rg tok [4, 6, 28, 29] fun K hK => ?_
   simp only [go_sem, qb, qa, qd, xL, xQ, TypeDesc.isIface]
   apply hK
   refine zA rfl ?_
   refine rg tok [4, 6, 9] fun K hK => ?_
   simp only [go_sem, qb, qa]
   apply hK
   refine rc [4, 6, 10, 11] fun K hK => ?_
   obtain ⟨r10, hr10, h⟩ := bind_some h
   refine za tok 1 ?_
   simp only [go_sem, qb, qa]
   refine zh rfl rfl rfl (ev_encode_bytes (⟨e9, r9⟩ : GValueNode) r10 hr10 _) ?_
   rintro _ _ ⟨rfl, rfl⟩
   refine za tok 5 ?_
   simp only [go_sem, qb, qa, qd]
   refine zb ?_
   simp only [zd, upd, qa, reduceIte, zk, zo]
   apply hK
   refine ze fun Z11 hZ11 => ?_
   refine rg tok [4, 6, 10, 11, 36] fun K hK => ?_
   simp only [go_sem, qb, qa]
   apply hK
   refine zI rfl (fun hc12 => ?_) (fun hc12 => ?_)
   · rw [if_neg hc12] at h
     have t13 := eq_false hc12
     refine rg tok [4, 5] fun K hK => ?_
     simp only [go_sem, qb, qe, qa, qd, t13]
     apply hK
     refine zi ?_
     obtain rfl := Option.some.inj h
     exact yy
   rw [if_pos hc12] at h
   have t14 := eq_true hc12
   refine zf ?_
   apply hZ11
   have f15 := vaO (T := tab) (src := 34) (dst := 9) rfl rfl rfl rfl rfl rfl r10.1
   refine rgE tok [4, 6] fun K hK => ?_
   simp only [go_sem, qb, qe, qa, qd, t14, f15]
   apply hK
   exact ⟨_, _, ⟨(⟨a0, 1, 0, r10.1⟩ : GRaw), rfl, rfl, h⟩, (.t [1, 2] false)⟩
 rintro _ _ ⟨m1_2, rfl, rfl, h⟩
 unfold yE.j3 at h
 refine ze fun Z4 hZ4 => ?_
 refine rg tok [4, 6, 45] fun K hK => ?_
 simp only [go_sem, qb, qa, qd]
 apply hK
 refine zI rfl (fun hc5 => ?_) (fun hc5 => ?_)
 · rw [if_pos hc5] at h
   have t6 := eq_true hc5
   refine rg tok [4, 5] fun K hK => ?_
   simp only [go_sem, qb, qe, qa, qd, t6]
   apply hK
   refine zi ?_
   obtain rfl := Option.some.inj h
   exact yy
 rw [if_neg hc5] at h
 have t7 := eq_false hc5
 refine zf ?_
 apply hZ4
 refine rg tok [4, 5] fun K hK => ?_
 simp only [go_sem, qb, qe, qa, qd, t7]
 apply hK
 refine zi ?_
 obtain rfl := Option.some.inj h
 exact yy
def zS.l24 (ya : Int → GValueValue → Option (GRaw × Int)) (x6 : Int) (rec10 : Int → List GRaw → Option (List GRaw × Int)) (y10 : Int) : List GValueValue → Int → List GRaw → Option (List GRaw × Int)
 | [], x20, l18 => (rec10 (x6 + 1) l18)
 | y24 :: q24, x20, l18 => (ya y10 y24).bind fun r31 => (if r31.2 = 0 then (Yi (qc l18 + 1) 40).bind fun _u36 => ((zS.l24 ya x6 rec10 y10 q24) (x20 + 1) (l18 ++ [r31.1])) else some (([] : List GRaw), r31.2))
def zS.l10 (ya : Int → GValueValue → Option (GRaw × Int)) (a0 : GValueNode) : List Int → Int → List GRaw → Option (List GRaw × Int)
 | [], x6, l4 => (zN l4).bind fun r12 => some (r12, 0)
 | y10 :: q10, x6, l4 => (yr a0 y10).bind fun r17 => (zS.l24 ya x6 (zS.l10 ya a0 q10) y10 r17 0 l4)
def zS.body (yL : GValueNode → Option (List UInt8 × Int)) (ya : Int → GValueValue → Option (GRaw × Int)) (yQ : GValueNode → Option (List GRaw × Int)) (a0 : GValueNode) : Option (List GRaw × Int) :=
 (wr a0).bind fun r1 => (zZ a0).bind fun r3 => (zS.l10 ya a0 r3 0 r1)
theorem zS.step (yL : GValueNode → Option (List UInt8 × Int)) (ya : Int → GValueValue → Option (GRaw × Int)) (yQ : GValueNode → Option (List GRaw × Int)) (wP : ∀ (a0 : GValueNode) (r : List UInt8 × Int), yL a0 = some r → ACalls qh 138 [.dp (encGValueNode a0) 0] [] (fun r' _ => r' = .tup [.ds true (qf encB r.1) (qc r.1) false, .int .i64 r.2])) (Zf : ∀ (a0 : Int) (a1 : GValueValue) (r : GRaw × Int), ya a0 a1 = some r → ACalls qh 101 [.int .i64 a0, .agg (encGValueValue a1)] [] (fun r' _ => r' = .tup [.agg (encGRaw r.1), .int .i64 r.2])) (wY : ∀ (a0 : GValueNode) (r : List GRaw × Int), yQ a0 = some r → ACalls qh 58 [.dp (encGValueNode a0) 0] [] (fun r' _ => r' = .tup [.ds true (qf encGRaw r.1) (qc r.1) false, .int .i64 r.2])) (a0 : GValueNode) (r : List GRaw × Int) (h : zS.body yL ya yQ a0 = some r) : ACalls qh 58 [.dp (encGValueNode a0) 0] [] (fun r' _ => r' = .tup [.ds true (qf encGRaw r.1) (qc r.1) false, .int .i64 r.2]) := by
 have ev_encode_bytes := fun a0 r h σ => (wP a0 r h).c σ
 have ev_encode_raw := fun a0 a1 r h σ => (Zf a0 a1 r h).c σ
 have ev_encode_raws := fun a0 r h σ => (wY a0 r h).c σ
 refine zm (rs := [.tmp 2, .tmp 3]) tok Tryz.func58 rfl Tryz.ntmps58 rfl Tryz.call58 (by simp) ?_
 refine zq [(0, .dp (encGValueNode a0) 0)] ⟨rfl, trivial⟩ ?_
 unfold zS.body at h
 refine rg tok [0] fun K hK => ?_
 simp only [go_sem, qb, reduceCtorEq]
 apply hK
 refine rc [0, 4] fun K hK => ?_
 obtain ⟨r1, hr1, h⟩ := bind_some h
 refine za tok 1 ?_
 simp only [go_sem, qb]
 refine zh rfl rfl rfl (@id (ACalls qh 98 [.dp (encGValueNode a0) 0] [] (fun r' σ' => r' = .os true 4 0 0 0 (qc r1) false ∧ σ' = [.cells 0 (qf encGRaw r1)])) ((wr.own a0 r1 hr1).ownAt0 (by simp only [push_cast]) (by simp only [push_cast]) _)) ?_
 rintro _ _ ⟨rfl, rfl⟩
 refine za tok 1 ?_
 simp only [go_sem, qb, qa, reduceCtorEq]
 refine zb ?_
 simp only [zd, upd, qa, reduceIte, zk, zo]
 apply hK
 refine ze fun Z2 hZ2 => ?_
 refine rc [0, 4, 14, 15, 16] fun K hK => ?_
 obtain ⟨r3, hr3, h⟩ := bind_some h
 refine za tok 1 ?_
 simp only [go_sem, qb, reduceCtorEq]
 refine zh rfl rfl rfl (zZ.ev a0 r3 hr3 _) ?_
 rintro _ _ ⟨rfl, rfl⟩
 refine za tok 2 ?_
 simp only [go_sem, qb, qa, reduceCtorEq]
 refine zb ?_
 simp only [zd, upd, qa, reduceIte, zk, zo]
 apply hK
 refine zj ?_
 refine xh 14 fun hb10 => ?_
 replace hb10 : qc r3 ≤ 9223372036854775807 := hb10.1
 refine zB (fun m L τ => ∃ (p10 q10 : List Int) (x6 : Int) (l4 : List GRaw) (v5 : Nat), m = qc q10 ∧ L = [(0, .dp (encGValueNode a0) 0), (4, .os true 4 0 v5 0 (qc l4) false), (14, .ds true (qf encI r3) (qc r3) false), (15, .int .i64 (qc r3 : Int)), (16, .int .i64 x6)] ∧ τ = ([.cells v5 (qf encGRaw l4)] : Store) ∧ r3 = p10 ++ q10 ∧ x6 = (qc p10 : Int) ∧ zS.l10 ya a0 q10 x6 l4 = some r) _ ⟨[], r3, 0, r1, 0, rfl, rfl, rfl, rfl, rfl, h⟩ .s ?_
 rintro m L τ ⟨p10, q10, x6, l4, v5, rfl, rfl, rfl, hE10, hi10, h⟩
 rcases q10 with _ | ⟨y10, q10⟩
 · have hz10 := yC hE10 hi10
   simp only [zS.l10] at h
   refine rg tok [0, 4, 14, 15, 16, 17] fun K hK => ?_
   simp only [go_sem, qb, qa, reduceCtorEq, hz10]
   apply hK
   refine ze fun Z11 hZ11 => ?_
   refine zx rfl ?_
   refine zJ ?_
   apply hZ2
   refine rc [2, 3] fun K hK => ?_
   obtain ⟨r12, hr12, h⟩ := bind_some h
   refine za tok 1 ?_
   simp only [go_sem, qb, qa, reduceCtorEq]
   refine vbc (L := [(43, .ds true (qf encGRaw l4) (qc l4) false)]) (τ := []) (.t [] false) ?_
   refine zh rfl rfl rfl (zN.ev l4 r12 hr12 _) ?_
   rintro _ _ ⟨rfl, rfl⟩
   refine za tok 2 ?_
   simp only [go_sem, qb, qa]
   refine zb ?_
   simp only [zd, upd, qa, reduceIte, zk, zo]
   apply hK
   refine zi ?_
   obtain rfl := Option.some.inj h
   exact yy
 obtain ⟨hz10, hw10, hx10, hE'10, hi'10⟩ := ye hE10 hi10 hb10
 simp only [zS.l10] at h
 refine rg tok [0, 4, 14, 15, 16, 17] fun K hK => ?_
 simp only [go_sem, qb, qa, reduceCtorEq, hz10]
 apply hK
 refine ze fun Z13 hZ13 => ?_
 refine zA rfl ?_
 refine zf ?_
 apply hZ13
 refine ze fun Z14 hZ14 => ?_
 refine zj ?_
 have f15 := E45.idxS hx10
 have f16 := E45.fldS0 (f := 3) rfl rfl hx10
 refine rg tok [0, 4, 6, 14, 15, 16] fun K hK => ?_
 simp only [go_sem, qb, qa, reduceCtorEq, encI, f15, f16]
 apply hK
 refine rc [0, 4, 6, 14, 15, 16, 22, 23, 24] fun K hK => ?_
 obtain ⟨r17, hr17, h⟩ := bind_some h
 refine za tok 2 ?_
 simp only [go_sem, qb, qa, reduceCtorEq]
 refine zh rfl rfl rfl (yr.ev a0 y10 r17 hr17 _) ?_
 rintro _ _ ⟨rfl, rfl⟩
 refine za tok 2 ?_
 simp only [go_sem, qb, qa, reduceCtorEq]
 refine zb ?_
 simp only [zd, upd, qa, reduceIte, zk, zo]
 apply hK
 refine zj ?_
 refine xh 22 fun hb24 => ?_
 replace hb24 : qc r17 ≤ 9223372036854775807 := hb24.1
 refine zB (fun m L τ => ∃ (p24 q24 : List GValueValue) (x20 : Int) (l18 : List GRaw) (v19 : Nat), m = qc q24 ∧ L = [(0, .dp (encGValueNode a0) 0), (4, .os true 4 0 v19 0 (qc l18) false), (6, .int .i64 y10), (14, .ds true (qf encI r3) (qc r3) false), (15, .int .i64 (qc r3 : Int)), (16, .int .i64 x6), (22, .ds true (qf encGValueValue r17) (qc r17) false), (23, .int .i64 (qc r17 : Int)), (24, .int .i64 x20)] ∧ τ = ([.cells v19 (qf encGRaw l18)] : Store) ∧ r17 = p24 ++ q24 ∧ x20 = (qc p24 : Int) ∧ zS.l24 ya x6 (zS.l10 ya a0 q10) y10 q24 x20 l18 = some r) _ ⟨[], r17, 0, l4, v5, rfl, rfl, rfl, rfl, rfl, h⟩ .s ?_
 rintro m L τ ⟨p24, q24, x20, l18, v19, rfl, rfl, rfl, hE24, hi24, h⟩
 rcases q24 with _ | ⟨y24, q24⟩
 · have hz24 := yC hE24 hi24
   simp only [zS.l24] at h
   refine rg tok [0, 4, 6, 14, 15, 16, 22, 23, 24, 25] fun K hK => ?_
   simp only [go_sem, qb, qa, reduceCtorEq, hz24]
   apply hK
   refine ze fun Z25 hZ25 => ?_
   refine zx rfl ?_
   refine zJ ?_
   apply hZ14
   refine rgE tok [0, 4, 14, 15, 16] fun K hK => ?_
   simp only [go_sem, qb, qa, reduceCtorEq, hw10]
   apply hK
   exact ⟨_, _, _, qw q10.length, ⟨p10 ++ [y10], q10, x6 + 1, l18, v19, rfl, rfl, rfl, hE'10, hi'10, h⟩, .s⟩
 obtain ⟨hz24, hw24, hx24, hE'24, hi'24⟩ := ye hE24 hi24 hb24
 simp only [zS.l24] at h
 refine rg tok [0, 4, 6, 14, 15, 16, 22, 23, 24, 25] fun K hK => ?_
 simp only [go_sem, qb, qa, reduceCtorEq, hz24]
 apply hK
 refine ze fun Z26 hZ26 => ?_
 refine zA rfl ?_
 refine zf ?_
 apply hZ26
 refine ze fun Z27 hZ27 => ?_
 refine zj ?_
 have f28 := E156.idxS hx24
 have f29 := E156.loadS rfl rfl hx24
 have f30 := Zm y24
 unfold AV.one at f30
 refine rg tok [0, 4, 6, 8, 14, 15, 16, 22, 23, 24] fun K hK => ?_
 simp only [go_sem, qb, qe, qa, reduceCtorEq, encGValueValue, f28, f29, f30]
 apply hK
 refine rc [0, 4, 6, 9, 10, 14, 15, 16, 22, 23, 24] fun K hK => ?_
 obtain ⟨r31, hr31, h⟩ := bind_some h
 refine za tok 2 ?_
 simp only [go_sem, qb, qe, qa, reduceCtorEq]
 refine zh rfl rfl rfl (ev_encode_raw y10 y24 r31 hr31 _) ?_
 rintro _ _ ⟨rfl, rfl⟩
 refine za tok 6 ?_
 simp only [go_sem, qb, qe, qa, qd, reduceCtorEq, encGRaw]
 refine zb ?_
 simp only [zd, upd, qa, reduceIte, zk, zo]
 apply hK
 refine ze fun Z32 hZ32 => ?_
 refine rg tok [0, 4, 6, 9, 10, 14, 15, 16, 22, 23, 24, 35] fun K hK => ?_
 simp only [go_sem, qb, qa, reduceCtorEq]
 apply hK
 refine zI rfl (fun hc33 => ?_) (fun hc33 => ?_)
 · rw [if_neg hc33] at h
   have t34 := eq_false hc33
   refine rg tok [2, 3] fun K hK => ?_
   simp only [go_sem, qb, qa, reduceCtorEq, t34]
   apply hK
   refine zi ?_
   obtain rfl := Option.some.inj h
   exact yy
 rw [if_pos hc33] at h
 have t35 := eq_true hc33
 refine zf ?_
 apply hZ32
 obtain ⟨_u36, hu36, h⟩ := bind_some h
 have gu36 := yq hu36
 have f37 := (zE E28.len l18)
 refine rgE tok [0, 4, 6, 14, 15, 16, 22, 23, 24] fun K hK => ?_
 simp only [go_sem, qb, qe, qa, qd, qs, reduceCtorEq, zO, z7, q7, qX, true_and, uf, yh, zU, yk, t35, gu36, f37, yG, ud, q5, AV.one, qU, qB, qk, ql, qn, qH]
 apply hK
 apply hZ27
 refine rgE tok [0, 4, 6, 14, 15, 16, 22, 23, 24] fun K hK => ?_
 simp only [go_sem, qb, qa, reduceCtorEq, hw24]
 apply hK
 exact ⟨_, _, _, qw q24.length, ⟨p24 ++ [y24], q24, x20 + 1, l18 ++ [r31.1], v19 + 1, rfl, rfl, rfl, hE'24, hi'24, h⟩, (.t [0] false)⟩
mutual
def y0 : Nat → GValueNode → Option (List UInt8 × Int)
 | 0, _ => none
 | k + 1, a0 => y0.body (y0 k) (yE k) (zS k) a0
def yE : Nat → Int → GValueValue → Option (GRaw × Int)
 | 0, _, _ => none
 | k + 1, a0, a1 => yE.body (y0 k) (yE k) (zS k) a0 a1
def zS : Nat → GValueNode → Option (List GRaw × Int)
 | 0, _ => none
 | k + 1, a0 => zS.body (y0 k) (yE k) (zS k) a0
end
theorem y0.all (k : Nat) : (∀ (a0 : GValueNode) (r : List UInt8 × Int), y0 k a0 = some r → ACalls qh 138 [.dp (encGValueNode a0) 0] [] (fun r' _ => r' = .tup [.ds true (qf encB r.1) (qc r.1) false, .int .i64 r.2])) ∧ (∀ (a0 : Int) (a1 : GValueValue) (r : GRaw × Int), yE k a0 a1 = some r → ACalls qh 101 [.int .i64 a0, .agg (encGValueValue a1)] [] (fun r' _ => r' = .tup [.agg (encGRaw r.1), .int .i64 r.2])) ∧ (∀ (a0 : GValueNode) (r : List GRaw × Int), zS k a0 = some r → ACalls qh 58 [.dp (encGValueNode a0) 0] [] (fun r' _ => r' = .tup [.ds true (qf encGRaw r.1) (qc r.1) false, .int .i64 r.2])) := by
 induction k with
 | zero => exact ⟨(fun a0 r h => by simp only [y0] at h; cases h), (fun a0 a1 r h => by simp only [yE] at h; cases h), (fun a0 r h => by simp only [zS] at h; cases h)⟩
 | succ k ih => exact ⟨(fun a0 r h => y0.step _ _ _ ih.1 ih.2.1 ih.2.2 a0 r (by simpa only [y0] using h)), (fun a0 a1 r h => yE.step _ _ _ ih.1 ih.2.1 ih.2.2 a0 a1 r (by simpa only [yE] using h)), (fun a0 r h => zS.step _ _ _ ih.1 ih.2.1 ih.2.2 a0 r (by simpa only [zS] using h))⟩
theorem zS.ev (k : Nat) (a0 : GValueNode) (r : List GRaw × Int) (h : zS k a0 = some r) (σ : Store) : ACalls qh 58 [.dp (encGValueNode a0) 0] σ (fun r' σ' => r' = .tup [.ds true (qf encGRaw r.1) (qc r.1) false, .int .i64 r.2] ∧ σ' = σ) :=
 ((y0.all k).2.2 a0 r h).c σ
def wq (a0 : GTree) : Option (List GRaw × Int) :=
 (Zs a0).bind fun r1 => (if ((!r1.2) || (!(decide (a0.fKind = 3)))) = true then some (([] : List GRaw), 1) else (yA r1.1).bind fun r5 => (zS rounds r5).bind fun r6 => some (r6.1, r6.2))
theorem wq.ok (a0 : GTree) (r : List GRaw × Int) (h : wq a0 = some r) : ACalls qh 37 [.agg (cellsGTree a0)] [] (fun r' _ => r' = .tup [.ds true (qf encGRaw r.1) (qc r.1) false, .int .i64 r.2]) := by
 refine zm (rs := [.tmp 2, .tmp 3]) tok Tryz.func37 rfl Tryz.ntmps37 rfl Tryz.call37 (by simp) ?_
 refine zq [(0, .agg (cellsGTree a0))] ⟨rfl, trivial⟩ ?_
 unfold wq at h
 refine rg tok [1] fun K hK => ?_
 simp only [go_sem, qb, qa, qd, reduceCtorEq, cellsGTree]
 apply hK
 refine rc [1, 4, 5] fun K hK => ?_
 obtain ⟨r1, hr1, h⟩ := bind_some h
 refine za tok 1 ?_
 simp only [go_sem, qb, qe, qd]
 refine zh rfl rfl rfl (Zs.ev a0 r1 hr1 _) ?_
 rintro _ _ ⟨rfl, rfl⟩
 have f2 := Zm r1.1
 unfold AV.one at f2
 refine za tok 6 ?_
 simp only [go_sem, qb, qe, qa, qd, encGValueValue, f2]
 refine zb ?_
 simp only [zd, upd, qa, reduceIte, zk, zo]
 apply hK
 refine ze fun Z3 hZ3 => ?_
 refine rc [4, 17] fun K hK => ?_
 refine za tok 3 ?_
 simp only [go_sem, qb, qa]
 refine zn 4 (fun L τ => L = [(4, .op 1 0 0), (17, .bool ((!r1.2) || (!(decide (a0.fKind = 3)))))] ∧ τ = ([.cells 0 (cellsGTree a0), .cells 0 [ifcV r1.1]] : Store)) ?_ ?_
 · refine zQ (b := (!r1.2)) 13 rfl (fun hg13 => ?_) (fun hg13 => ?_)
   · refine za tok 4 ?_
     simp only [go_sem, qb, qa]
     refine zb ⟨rfl, _, _, ⟨rfl, rfl⟩, .b hg13⟩
   refine za tok 4 ?_
   simp only [go_sem, qb, qa, qd]
   refine zb ⟨rfl, _, _, ⟨rfl, rfl⟩, .b hg13⟩
 rintro _ _ ⟨rfl, rfl⟩
 refine zb ?_
 simp only [zd, qa, reduceIte, zk, zo]
 apply hK
 refine zt (b := ((!r1.2) || (!(decide (a0.fKind = 3))))) rfl (fun hc4 => ?_) (fun hc4 => ?_)
 · rw [if_pos hc4] at h
   refine rg tok [2, 3] fun K hK => ?_
   simp only [go_sem, qb, qa]
   apply hK
   refine zi ?_
   obtain rfl := Option.some.inj h
   exact yy
 rw [xK hc4] at h
 refine zf ?_
 apply hZ3
 refine rc [2, 3] fun K hK => ?_
 obtain ⟨r5, hr5, h⟩ := bind_some h
 refine za tok 1 ?_
 simp only [go_sem, qb, qe, qa]
 refine zh rfl rfl rfl (yA.ev r1.1 r5 hr5 _) ?_
 rintro _ _ ⟨rfl, rfl⟩
 obtain ⟨r6, hr6, h⟩ := bind_some h
 refine zh rfl rfl rfl (zS.ev rounds r5 r6 hr6 _) ?_
 rintro _ _ ⟨rfl, rfl⟩
 refine za tok 4 ?_
 simp only [go_sem, qb, qa, qd]
 refine zb ?_
 simp only [zd, upd, qa, reduceIte, zk, zo]
 apply hK
 refine zi ?_
 obtain rfl := Option.some.inj h
 exact yy
theorem wq.ev (a0 : GTree) (r : List GRaw × Int) (h : wq a0 = some r) (σ : Store) : ACalls qh 37 [.agg (cellsGTree a0)] σ (fun r' σ' => r' = .tup [.ds true (qf encGRaw r.1) (qc r.1) false, .int .i64 r.2] ∧ σ' = σ) :=
 (wq.ok a0 r h).c σ
def xv (a0 : GTree) : Option (List UInt8 × Int) :=
 (wq a0).bind fun r1 => (if r1.2 = 0 then (z8 r1.1).bind fun r6 => some (r6.1, r6.2) else some (([] : List UInt8), r1.2))
theorem xv.ok (a0 : GTree) (r : List UInt8 × Int) (h : xv a0 = some r) : ACalls qh 14 [.agg (cellsGTree a0)] [] (fun r' _ => r' = .tup [.ds true (qf encB r.1) (qc r.1) false, .int .i64 r.2]) := by
 refine zm (rs := [.tmp 2, .tmp 3]) tok Tryz.func14 rfl Tryz.ntmps14 rfl Tryz.call14 (by simp) ?_
 refine zq [(0, .agg (cellsGTree a0))] ⟨rfl, trivial⟩ ?_
 unfold xv at h
 refine rg tok [1] fun K hK => ?_
 simp only [go_sem, qb, qa, qd, reduceCtorEq, cellsGTree]
 apply hK
 refine rc [4, 5] fun K hK => ?_
 obtain ⟨r1, hr1, h⟩ := bind_some h
 refine za tok 1 ?_
 simp only [go_sem, qb, qe, qd]
 refine zh rfl rfl rfl (wq.ev a0 r1 hr1 _) ?_
 rintro _ _ ⟨rfl, rfl⟩
 refine za tok 5 ?_
 simp only [go_sem, qb, qa, qd]
 refine zb ?_
 simp only [zd, upd, qa, reduceIte, zk, zo]
 apply hK
 refine ze fun Z2 hZ2 => ?_
 refine rg tok [4, 5, 12] fun K hK => ?_
 simp only [go_sem, qb, qa]
 apply hK
 refine zI rfl (fun hc3 => ?_) (fun hc3 => ?_)
 · rw [if_neg hc3] at h
   have t4 := eq_false hc3
   refine rg tok [2, 3] fun K hK => ?_
   simp only [go_sem, qb, qa, t4]
   apply hK
   refine zi ?_
   obtain rfl := Option.some.inj h
   exact yy
 rw [if_pos hc3] at h
 have t5 := eq_true hc3
 refine zf ?_
 apply hZ2
 refine rc [2, 3] fun K hK => ?_
 obtain ⟨r6, hr6, h⟩ := bind_some h
 refine za tok 1 ?_
 simp only [go_sem, qb, qa, t5]
 refine zh rfl rfl rfl (z8.ev r1.1 r6 hr6 _) ?_
 rintro _ _ ⟨rfl, rfl⟩
 refine za tok 4 ?_
 simp only [go_sem, qb, qa, qd]
 refine zb ?_
 simp only [zd, upd, qa, reduceIte, zk, zo]
 apply hK
 refine zi ?_
 obtain rfl := Option.some.inj h
 exact yy
theorem xv.ev (a0 : GTree) (r : List UInt8 × Int) (h : xv a0 = some r) (σ : Store) : ACalls qh 14 [.agg (cellsGTree a0)] σ (fun r' σ' => r' = .tup [.ds true (qf encB r.1) (qc r.1) false, .int .i64 r.2] ∧ σ' = σ) :=
 (xv.ok a0 r h).c σ
def yR (a0 : GSchema) (a1 : List UInt8) (a2 : List UInt8) : Option Bool :=
 (xg a0 a1 a2).bind fun r1 => (if r1.2 = 0 then (xv r1.1).bind fun r6 => some ((decide (r6.2 = 0)) && (decide (r6.1 = a2))) else some false)
theorem yR.ok (a0 : GSchema) (a1 : List UInt8) (a2 : List UInt8) (r : Bool) (h : yR a0 a1 a2 = some r) : ACalls qh 24 [.agg (encGSchema a0), .str a1, .ds true (qf encB a2) (qc a2) false] [] (fun r' _ => r' = .bool r) := by
 refine zm (rs := [.tmp 6]) tok Tryz.func24 rfl Tryz.ntmps24 rfl Tryz.call24 (by simp) ?_
 refine zq [(0, .agg (encGSchema a0)), (1, .str a1), (2, .ds true (qf encB a2) (qc a2) false)] ⟨rfl, rfl, rfl, trivial⟩ ?_
 unfold yR at h
 refine rg tok [1, 2, 3] fun K hK => ?_
 simp only [go_sem, qb, qa, qd, reduceCtorEq, encGSchema]
 apply hK
 refine rc [2, 7, 8] fun K hK => ?_
 obtain ⟨r1, hr1, h⟩ := bind_some h
 refine za tok 3 ?_
 simp only [go_sem, qb, qe, qa, qd]
 refine zh rfl rfl rfl (xg.ev a0 a1 a2 r1 hr1 _) ?_
 rintro _ _ ⟨rfl, rfl⟩
 refine za tok 6 ?_
 simp only [go_sem, qb, qe, qa, qd, cellsGTree]
 refine zb ?_
 simp only [zd, upd, qa, reduceIte, zk, zo]
 apply hK
 refine ze fun Z2 hZ2 => ?_
 refine rg tok [2, 7, 18] fun K hK => ?_
 simp only [go_sem, qb, qa]
 apply hK
 refine zI rfl (fun hc3 => ?_) (fun hc3 => ?_)
 · rw [if_neg hc3] at h
   have t4 := eq_false hc3
   refine rg tok [6] fun K hK => ?_
   simp only [go_sem, qb, qa, t4]
   apply hK
   refine zi ?_
   obtain rfl := Option.some.inj h
   exact yy
 rw [if_pos hc3] at h
 have t5 := eq_true hc3
 refine zf ?_
 apply hZ2
 refine rc [2, 8, 9] fun K hK => ?_
 obtain ⟨r6, hr6, h⟩ := bind_some h
 refine za tok 1 ?_
 simp only [go_sem, qb, qe, qa, qd, t5]
 refine zh rfl rfl rfl (xv.ev r1.1 r6 hr6 _) ?_
 rintro _ _ ⟨rfl, rfl⟩
 refine za tok 5 ?_
 simp only [go_sem, qb, qa, qd]
 refine zb ?_
 simp only [zd, upd, qa, reduceIte, zk, zo]
 apply hK
 refine rc [6] fun K hK => ?_
 refine za tok 3 ?_
 simp only [go_sem, qb, qa]
 refine zn 6 (fun L τ => L = [(32, .bool ((decide (r6.2 = 0)) && (decide (r6.1 = a2))))] ∧ τ = ([.cells 0 (encGSchema a0), .cells 0 (cellsGTree r1.1)] : Store)) ?_ ?_
 · refine yH 26 rfl (fun hg26 => ?_) (fun hg26 => ?_)
   · have t7 := eq_true hg26
     have f8 := vaO (T := tab) (src := 34) (dst := 9) rfl rfl rfl rfl rfl rfl r6.1
     have f9 := vaO (T := tab) (src := 34) (dst := 9) rfl rfl rfl rfl rfl rfl a2
     refine za tok 6 ?_
     simp only [go_sem, qb, qa, f8, f9]
     refine zb ⟨rfl, _, _, ⟨rfl, rfl⟩, .p t7⟩
   have t10 := eq_false hg26
   refine za tok 6 ?_
   simp only [go_sem, qb, qa]
   refine zb ⟨rfl, _, _, ⟨rfl, rfl⟩, .p t10⟩
 rintro _ _ ⟨rfl, rfl⟩
 refine za tok 1 ?_
 simp only [go_sem, qb]
 refine zb ?_
 simp only [zd, upd, qa, reduceIte, zk, zo]
 apply hK
 refine zi ?_
 obtain rfl := Option.some.inj h
 exact yy
theorem yR.ev (a0 : GSchema) (a1 : List UInt8) (a2 : List UInt8) (r : Bool) (h : yR a0 a1 a2 = some r) (σ : Store) : ACalls qh 24 [.agg (encGSchema a0), .str a1, .ds true (qf encB a2) (qc a2) false] σ (fun r' σ' => r' = .bool r ∧ σ' = σ) :=
 (yR.ok a0 a1 a2 r h).c σ
def xF  : Option Bool :=
 (xg (⟨[97], [(⟨[109], ([] : List GField), ([] : List Int)⟩ : GMessage)], ([] : List GEnumeration), ([] : List GMethod)⟩ : GSchema) [109] [(2 : UInt8), (10 : UInt8)]).bind fun r2 => (if ((decide (r2.2 = 0)) && (decide ((qc r2.1.fRest : Int) = 1))) = true then (wW r2.1.fRest 0).bind fun y5 => some (decide (y5.fTag = 1) && (decide (y5.fWire = 0) && (decide (y5.fN = 5) && decide (y5.fB = [])))) else some false).bind fun c5 => (if c5 = true then (yR (⟨[97], [(⟨[109], ([] : List GField), ([] : List Int)⟩ : GMessage)], ([] : List GEnumeration), ([] : List GMethod)⟩ : GSchema) [109] [(2 : UInt8), (10 : UInt8)]).bind fun r10 => some r10 else some false).bind fun c9 => some c9
theorem xF.ok  (r : Bool) (h : xF = some r) : ACalls qh 13 [] [] (fun r' _ => r' = .bool r) := by
 refine zm (rs := [.tmp 0]) tok Tryz.func13 rfl Tryz.ntmps13 rfl Tryz.call13 (by simp) ?_
 refine zq [] trivial ?_
 unfold xF at h
 refine rg tok [] fun K hK => ?_
 simp only [go_sem, qb]
 apply hK
 refine rg tok [1] fun K hK => ?_
 simp only [go_sem, qb, qe, qa, qd, qs, zO, z7, q7, qX, true_and, uf]
 apply hK
 refine rc [1, 2, 3] fun K hK => ?_
 have f1 := fun (o0 : Zu) (o1 : Zu) (τ : Store) => conv_same (T := tab) (s := 34) (off := 0) (len := 2) (sz := 1) (nl := true) (t := true) rfl rfl rfl rfl (σ := o0 :: o1 :: .cells 0 [.int .u8 2, .int .u8 10] :: τ) (id := 2) (ver := 0) (by simp only [Store.at_hd, Store.at_tl, if_true]; rfl) ⟨by simp, by decide, rfl⟩
 obtain ⟨r2, hr2, h⟩ := bind_some h
 refine za tok 3 ?_
 simp only [go_sem, qb, qe, qa, qd, qs, zO, z7, q7, qX, true_and, uf, f1]
 refine vbc (L := [(1, .op 0 0 0), (8, .agg [.str [97], .ds true (qf encGMessage [(⟨[109], ([] : List GField), ([] : List Int)⟩ : GMessage)]) (qc [(⟨[109], ([] : List GField), ([] : List Int)⟩ : GMessage)]) false, .ds true (qf encGEnumeration ([] : List GEnumeration)) (qc ([] : List GEnumeration)) false, .ds true (qf encGMethod ([] : List GMethod)) (qc ([] : List GMethod)) false]), (10, .ds true (qf encB [(2 : UInt8), (10 : UInt8)]) (qc [(2 : UInt8), (10 : UInt8)]) false)]) (τ := [.cells 0 [.str [97], .ds true (qf encGMessage [(⟨[109], ([] : List GField), ([] : List Int)⟩ : GMessage)]) (qc [(⟨[109], ([] : List GField), ([] : List Int)⟩ : GMessage)]) false, .ds true (qf encGEnumeration ([] : List GEnumeration)) (qc ([] : List GEnumeration)) false, .ds true (qf encGMethod ([] : List GMethod)) (qc ([] : List GMethod)) false]]) (.t [1] true) ?_
 refine zh rfl rfl rfl (ACalls.loose (xg.ev (⟨[97], [(⟨[109], ([] : List GField), ([] : List Int)⟩ : GMessage)], ([] : List GEnumeration), ([] : List GMethod)⟩ : GSchema) [109] [(2 : UInt8), (10 : UInt8)] r2 hr2 _)) ?_
 rintro _ _ ⟨rfl, rfl⟩
 refine za tok 6 ?_
 simp only [go_sem, qb, qe, qa, qd, cellsGTree]
 refine zb ?_
 simp only [zd, upd, qa, reduceIte, zk, zo]
 apply hK
 refine rc [0] fun K hK => ?_
 refine za tok 3 ?_
 simp only [go_sem, qb, qa]
 refine zn 5 (fun L τ => L = [(1, .op 0 0 0), (2, .op 1 0 0), (21, .bool ((decide (r2.2 = 0)) && (decide ((qc r2.1.fRest : Int) = 1))))] ∧ τ = ([.cells 0 [.str [97], .ds true (qf encGMessage [(⟨[109], ([] : List GField), ([] : List Int)⟩ : GMessage)]) (qc [(⟨[109], ([] : List GField), ([] : List Int)⟩ : GMessage)]) false, .ds true (qf encGEnumeration ([] : List GEnumeration)) (qc ([] : List GEnumeration)) false, .ds true (qf encGMethod ([] : List GMethod)) (qc ([] : List GMethod)) false], .cells 0 (cellsGTree r2.1)] : Store)) ?_ ?_
 · refine yH 16 rfl (fun hg16 => ?_) (fun hg16 => ?_)
   · have t3 := eq_true hg16
     refine za tok 5 ?_
     simp only [go_sem, qb, qa, qd]
     refine zb ⟨rfl, _, _, ⟨rfl, rfl⟩, .p t3⟩
   have t4 := eq_false hg16
   refine za tok 5 ?_
   simp only [go_sem, qb, qa]
   refine zb ⟨rfl, _, _, ⟨rfl, rfl⟩, .p t4⟩
 rintro _ _ ⟨rfl, rfl⟩
 refine za tok 1 ?_
 simp only [go_sem, qb, qa]
 obtain ⟨c5, hc5, h⟩ := bind_some h
 refine zn 7 (fun L τ => L = [(1, .op 0 0 0), (29, .bool c5)] ∧ τ = ([.cells 0 [.str [97], .ds true (qf encGMessage [(⟨[109], ([] : List GField), ([] : List Int)⟩ : GMessage)]) (qc [(⟨[109], ([] : List GField), ([] : List Int)⟩ : GMessage)]) false, .ds true (qf encGEnumeration ([] : List GEnumeration)) (qc ([] : List GEnumeration)) false, .ds true (qf encGMethod ([] : List GMethod)) (qc ([] : List GMethod)) false], .cells 0 (cellsGTree r2.1)] : Store)) ?_ ?_
 · refine zQ (b := ((decide (r2.2 = 0)) && (decide ((qc r2.1.fRest : Int) = 1)))) 22 rfl (fun hg22 => ?_) (fun hg22 => ?_)
   · rw [if_pos hg22] at hc5
     obtain ⟨y6, hy6, hc5⟩ := bind_some hc5
     have f7 := E28.idxS hy6
     have f8 := E28.loadS rfl rfl hy6
     refine za tok 7 ?_
     simp only [go_sem, qb, qe, qa, qd, encGRaw, f7, f8, evEqA, ceqL, ceq]
     obtain rfl := Option.some.inj hc5
     refine zb ⟨rfl, _, _, ⟨rfl, rfl⟩, .b hg22⟩
   rw [xK hg22] at hc5
   refine za tok 7 ?_
   simp only [go_sem, qb, qa]
   obtain rfl := Option.some.inj hc5
   refine zb ⟨rfl, _, _, ⟨rfl, rfl⟩, .b hg22⟩
 rintro _ _ ⟨rfl, rfl⟩
 refine za tok 1 ?_
 simp only [go_sem, qb, qa]
 obtain ⟨c9, hc9, h⟩ := bind_some h
 refine zn 5 (fun L τ => L = [(35, .bool c9)] ∧ τ = ([] : Store)) ?_ ?_
 · refine zQ (b := c5) 30 rfl (fun hg30 => ?_) (fun hg30 => ?_)
   · rw [if_pos hg30] at hc9
     have f10 := fun (o0 : Zu) (o1 : Zu) (τ : Store) => conv_same (T := tab) (s := 34) (off := 0) (len := 2) (sz := 1) (nl := true) (t := true) rfl rfl rfl rfl (σ := o0 :: o1 :: .cells 0 [.int .u8 2, .int .u8 10] :: τ) (id := 2) (ver := 0) (by simp only [Store.at_hd, Store.at_tl, if_true]; rfl) ⟨by simp, by decide, rfl⟩
     obtain ⟨r11, hr11, hc9⟩ := bind_some hc9
     refine za tok 3 ?_
     simp only [go_sem, qb, qe, qa, qd, qs, zO, z7, q7, qX, true_and, uf, f10]
     refine zh rfl rfl rfl (yR.ok (⟨[97], [(⟨[109], ([] : List GField), ([] : List Int)⟩ : GMessage)], ([] : List GEnumeration), ([] : List GMethod)⟩ : GSchema) [109] [(2 : UInt8), (10 : UInt8)] r11 hr11).ld ?_
     rintro _ _ ⟨rfl, rfl⟩
     refine za tok 1 ?_
     simp only [go_sem, qb, qa]
     obtain rfl := Option.some.inj hc9
     refine zb ⟨rfl, _, _, ⟨rfl, rfl⟩, .told [] false (by decide) (by simp) (by first | rfl | simp) (by first | rfl | (simp only [← qY, ← qi]; simp only [go_sem, qb, qe, qa, qd, qs, qF, reduceIte, reduceCtorEq, push_cast, if_true, qz, qn, qD, qv, qE, qJ, qR, qO, qL, qI, qx, TLS, encGMessage, and_self, zF]; done) | (simp only [go_sem, qb, qe, qa, qd, qs, qF, reduceIte, reduceCtorEq, push_cast, if_true, qz, qn, qD, qv, qE, qJ, qR, qO, qL, qI, qx, TLS, encB, encI, encS, encBo, vaz, wz, qY, qT, uj, qA, qB, qi, qk, ql, qn, qq, qH, uS, encGMessage, and_self, zF] <;> first | rfl | (and_intros <;> rfl))) (by first | rfl | (simp only [← qY, ← qi]; simp only [go_sem, qb, qe, qa, qd, qs, qF, reduceIte, reduceCtorEq, push_cast, hg30, if_true, qz, qn, qD, qv, qE, qJ, qR, qO, qL, qI, qx, TLS, encGMessage, and_self, zF]; done) | (simp only [go_sem, qa, push_cast, hg30, if_true, TLS, uj, qA, ql, encGMessage, and_self] <;> first | rfl | (and_intros <;> rfl)))⟩
   rw [xK hg30] at hc9
   refine za tok 5 ?_
   simp only [go_sem, qb, qa, true_and]
   obtain rfl := Option.some.inj hc9
   refine zb ⟨rfl, _, _, ⟨rfl, rfl⟩, .told [] false (by decide) (by simp) (by first | rfl | simp) (by first | rfl | (simp only [← qY, ← qi]; simp only [go_sem, qb, qe, qa, qd, qs, qF, reduceIte, reduceCtorEq, push_cast, if_true, qz, qn, qD, qv, qE, qJ, qR, qO, qL, qI, qx, TLS, encGMessage, and_self, zF]; done) | (simp only [go_sem, qb, qe, qa, qd, qs, qF, reduceIte, reduceCtorEq, push_cast, if_true, qz, qn, qD, qv, qE, qJ, qR, qO, qL, qI, qx, TLS, encB, encI, encS, encBo, vaz, wz, qY, qT, uj, qA, qB, qi, qk, ql, qn, qq, qH, uS, encGMessage, and_self, zF] <;> first | rfl | (and_intros <;> rfl))) (by first | rfl | (simp only [← qY, ← qi]; simp only [go_sem, qb, qe, qa, qd, qs, qF, reduceIte, reduceCtorEq, push_cast, hg30, if_true, qz, qn, qD, qv, qE, qJ, qR, qO, qL, qI, qx, TLS, encGMessage, and_self, zF]; done) | (simp only [go_sem, qa, push_cast, hg30, if_true, TLS, uj, qA, ql, encGMessage, and_self] <;> first | rfl | (and_intros <;> rfl)))⟩
 rintro _ _ ⟨rfl, rfl⟩
 refine za tok 1 ?_
 simp only [go_sem, qb]
 refine zb ?_
 simp only [zd, upd, qa, reduceIte, zk, zo]
 apply hK
 refine zi ?_
 obtain rfl := Option.some.inj h
 exact yy
theorem xF.ev  (r : Bool) (h : xF = some r) (σ : Store) : ACalls qh 13 [] σ (fun r' σ' => r' = .bool r ∧ σ' = σ) :=
 (xF.ok  r h).c σ
def xV (a0 : List GRaw) : Option (List GRaw) :=
 (Yi (qc a0) 40).bind fun _u2 => some a0
theorem xV.own (a0 : List GRaw) (r : List GRaw) (h : xV a0 = some r) : ACalls qh 38 [.ds true (qf encGRaw a0) (qc a0) false] [] (fun r' σ' => r' = .os true 4 0 0 0 (qc r) false ∧ σ' = [.cells 0 (qf encGRaw r)]) := by
 refine ACalls.own0 (by simp only [push_cast]) ?_
 refine ZH (rs := [.tmp 2]) tok Tryz.func38 rfl Tryz.ntmps38 rfl Tryz.call38 (by simp) ?_
 refine zq [(0, .ds true (qf encGRaw a0) (qc a0) false)] ⟨rfl, trivial⟩ ?_
 unfold xV at h
 refine rg tok [0] fun K hK => ?_
 simp only [go_sem, qb, reduceCtorEq]
 apply hK
 have f1 := fun nl tt σ => xO E28.len a0 nl tt σ
 obtain ⟨_u2, hu2, h⟩ := bind_some h
 have gu2 := yq hu2
 refine rg tok [2] fun K hK => ?_
 simp only [go_sem, qb, qa, reduceCtorEq, yh, zU, yk, true_and, f1, gu2, Zt, qB, ql, qn]
 apply hK
 refine yg (L := [(2, .os true 4 0 0 0 (qc a0) false)]) (τ := [.cells 0 (qf encGRaw a0)]) .s ?_
 refine zi ?_
 obtain rfl := Option.some.inj h
 simp only [Zl, yP, y1, xJ, exists_eq_left', go_sem]
 refine ⟨0, 0, by simp, ?_, ?_⟩
 · first | rfl | (simp only [go_sem, qb, qe, qa, qd, qs, qF, reduceIte, reduceCtorEq, push_cast, if_true, qz, qn, qD, qv, qE, qJ, qR, qO, qL, qI, qx, zF, encGRaw] <;> rfl)
 first | rfl | (simp only [go_sem, push_cast, qv, zF] <;> rfl)
theorem xV.ok (a0 : List GRaw) (r : List GRaw) (h : xV a0 = some r) : ACalls qh 38 [.ds true (qf encGRaw a0) (qc a0) false] [] (fun r' _ => r' = .ds true (qf encGRaw r) (qc r) false) :=
 (xV.own a0 r h).ownData (zE E28.len r) (by simp only [push_cast])
theorem xV.ev (a0 : List GRaw) (r : List GRaw) (h : xV a0 = some r) (σ : Store) : ACalls qh 38 [.ds true (qf encGRaw a0) (qc a0) false] σ (fun r' σ' => r' = .ds true (qf encGRaw r) (qc r) false ∧ σ' = σ) :=
 (xV.ok a0 r h).c σ
def zV.l22 (yU : GTree → Option GTree) (x5 : Int) (l3 : List GEntry) (rec9 : Int → List GEntry → Option GTree) (y9 : GEntry) : List GTree → Int → List GTree → Option GTree
 | [], x18, l16 => (Yi (qc l3 + 1) 32).bind fun _u26 => (rec9 (x5 + 1) (l3 ++ [(⟨y9.fTag, l16⟩ : GEntry)]))
 | y22 :: q22, x18, l16 => (yU y22).bind fun r36 => (Yi (qc l16 + 1) 80).bind fun _u37 => ((zV.l22 yU x5 l3 rec9 y9 q22) (x18 + 1) (l16 ++ [r36]))
def zV.l9 (yU : GTree → Option GTree) (a0 : GTree) (r1 : List GRaw) : List GEntry → Int → List GEntry → Option GTree
 | [], x5, l3 => some (⟨a0.fKind, a0.fN, a0.fS, l3, r1⟩ : GTree)
 | y9 :: q9, x5, l3 => (zV.l22 yU x5 l3 (zV.l9 yU a0 r1 q9) y9 y9.fTrees 0 ([] : List GTree))
def zV.body (yU : GTree → Option GTree) (a0 : GTree) : Option GTree :=
 (xV a0.fRest).bind fun r1 => (zV.l9 yU a0 r1 a0.fEntries 0 ([] : List GEntry))
theorem zV.step (yU : GTree → Option GTree) (ih_law00_Tree : ∀ (a0 : GTree) (r : GTree), yU a0 = some r → ACalls qh 15 [.agg (cellsGTree a0)] [] (fun r' _ => r' = .agg (cellsGTree r))) (a0 : GTree) (r : GTree) (h : zV.body yU a0 = some r) : ACalls qh 15 [.agg (cellsGTree a0)] [] (fun r' _ => r' = .agg (cellsGTree r)) := by
 have ev_law00_Tree := fun a0 r h σ => (ih_law00_Tree a0 r h).c σ
 refine zm (rs := [.cell 2 30]) tok Tryz.func15 rfl Tryz.ntmps15 rfl Tryz.call15 (by simp) ?_
 refine zq [(0, .agg (cellsGTree a0))] ⟨rfl, trivial⟩ ?_
 unfold zV.body at h
 refine rg tok [1, 2] fun K hK => ?_
 simp only [go_sem, qb, qa, qd, reduceCtorEq, cellsGTree]
 apply hK
 obtain ⟨r1, hr1, h⟩ := bind_some h
 refine rd [1, 2, 3] fun K hK => ?_
 refine DW.start (T := tab) [.any, .own 2 [], .any, .own 2 [], .any, .own 2 [], .any, .at [], .eff, .any, .flt, .eff] [(2, [])] ?_
 refine DW.runN tok 8 ?_
 simp only [go_sem, qb, qa, qd, cellsGTree]
 refine DW.call rfl rfl rfl (xV.ev a0.fRest r1 hr1 _) ?_
 refine DW.runN tok 3 ?_
 simp only [go_sem, qb, qe, qa, qd]
 refine DW.fin tok (by decide +kernel) rfl ?_
 simp only [zd, upd, qa, reduceIte, zk, zo]
 apply hK
 refine wF 2 3 2 rfl (by simp) rfl (L := [(1, .op 0 0 0), (2, .op 1 0 0), (3, .op 2 0 0)]) (τ := [.cells 0 (cellsGTree a0), .cells 0 [.int .i64 0, .int .i64 0, .str [], .ds true [] 0 true, .ds true [] 0 true], .cells 0 [.int .i64 a0.fKind, .int .i64 a0.fN, .str a0.fS, .os true 2 3 0 0 (qc ([] : List GEntry)) false, .ds true (qf encGRaw r1) (qc r1) false], .cells 0 (qf encGEntry ([] : List GEntry))]) .s ?_
 refine ze fun Z2 hZ2 => ?_
 refine rg tok [1, 2, 3, 4] fun K hK => ?_
 simp only [go_sem, qb, qa]
 apply hK
 refine zj ?_
 refine xz 0 rfl fun hb9 => ?_
 replace hb9 : qc a0.fEntries ≤ 9223372036854775807 := hb9.2.2.2.1.1
 refine zB (fun m L τ => ∃ (p9 q9 : List GEntry) (x5 : Int) (l3 : List GEntry) (v4 : Nat), m = qc q9 ∧ L = [(1, .op 0 0 0), (2, .op 1 0 0), (3, .op 2 0 0), (4, .int .i64 x5)] ∧ τ = ([.cells 0 (cellsGTree a0), .cells 0 [.int .i64 0, .int .i64 0, .str [], .ds true [] 0 true, .ds true [] 0 true], .cells 0 [.int .i64 a0.fKind, .int .i64 a0.fN, .str a0.fS, .os true 2 3 v4 0 (qc l3) false, .ds true (qf encGRaw r1) (qc r1) false], .cells v4 (qf encGEntry l3)] : Store) ∧ a0.fEntries = p9 ++ q9 ∧ x5 = (qc p9 : Int) ∧ zV.l9 yU a0 r1 q9 x5 l3 = some r) _ ⟨[], a0.fEntries, 0, ([] : List GEntry), 0, rfl, rfl, rfl, rfl, rfl, h⟩ .s ?_
 rintro m L τ ⟨p9, q9, x5, l3, v4, rfl, rfl, rfl, hE9, hi9, h⟩
 rcases q9 with _ | ⟨y9, q9⟩
 · have hz9 := yC hE9 hi9
   simp only [zV.l9] at h
   refine ze fun Z10 hZ10 => ?_
   refine rg tok [1, 2, 3, 4, 21] fun K hK => ?_
   simp only [go_sem, qb, qa, qd, hz9]
   apply hK
   refine zx rfl ?_
   refine zJ ?_
   apply hZ2
   refine rg tok [2] fun K hK => ?_
   simp only [go_sem, qb, qe, qa, qd]
   apply hK
   refine zi ?_
   obtain rfl := Option.some.inj h
   exact yy
 obtain ⟨hz9, hw9, hx9, hE'9, hi'9⟩ := ye hE9 hi9 hb9
 simp only [zV.l9] at h
 refine ze fun Z11 hZ11 => ?_
 refine rg tok [1, 2, 3, 4, 21] fun K hK => ?_
 simp only [go_sem, qb, qa, qd, hz9]
 apply hK
 refine zA rfl ?_
 refine zf ?_
 apply hZ11
 refine ze fun Z12 hZ12 => ?_
 refine zj ?_
 have f13 := E27.idxS hx9
 have f14 := E27.fldS0 (f := 3) rfl rfl hx9
 refine rg tok [1, 2, 3, 4, 5] fun K hK => ?_
 simp only [go_sem, qb, qe, qa, qd, cellsGEntry, yo, f13, f14]
 apply hK
 refine wF 4 1 5 rfl (by simp) rfl (L := [(1, .op 0 0 0), (2, .op 1 0 0), (3, .op 2 0 0), (4, .int .i64 x5), (5, .op 4 0 0)]) (τ := [.cells 0 (cellsGTree a0), .cells 0 [.int .i64 0, .int .i64 0, .str [], .ds true [] 0 true, .ds true [] 0 true], .cells 0 [.int .i64 a0.fKind, .int .i64 a0.fN, .str a0.fS, .os true 2 3 v4 0 (qc l3) false, .ds true (qf encGRaw r1) (qc r1) false], .cells v4 (qf encGEntry l3), .cells 0 [.int .i64 y9.fTag, .os true 5 5 0 0 (qc ([] : List GTree)) false], .cells 0 (qf encGTree ([] : List GTree))]) .s ?_
 refine ze fun Z15 hZ15 => ?_
 refine rg tok [1, 2, 3, 4, 5, 6] fun K hK => ?_
 simp only [go_sem, qb, qa]
 apply hK
 refine zj ?_
 refine xz 0 rfl fun hb22 => ?_
 replace hb22 := vbq hb22.2.2.2.1.2 hx9
 rw [yo] at hb22
 replace hb22 : qc y9.fTrees ≤ 9223372036854775807 := hb22.2.1.1
 refine zB (fun m L τ => ∃ (p22 q22 : List GTree) (x18 : Int) (l16 : List GTree) (v17 : Nat), m = qc q22 ∧ L = [(1, .op 0 0 0), (2, .op 1 0 0), (3, .op 2 0 0), (4, .int .i64 x5), (5, .op 4 0 0), (6, .int .i64 x18)] ∧ τ = ([.cells 0 (cellsGTree a0), .cells 0 [.int .i64 0, .int .i64 0, .str [], .ds true [] 0 true, .ds true [] 0 true], .cells 0 [.int .i64 a0.fKind, .int .i64 a0.fN, .str a0.fS, .os true 2 3 v4 0 (qc l3) false, .ds true (qf encGRaw r1) (qc r1) false], .cells v4 (qf encGEntry l3), .cells 0 [.int .i64 y9.fTag, .os true 5 5 v17 0 (qc l16) false], .cells v17 (qf encGTree l16)] : Store) ∧ y9.fTrees = p22 ++ q22 ∧ x18 = (qc p22 : Int) ∧ zV.l22 yU x5 l3 (zV.l9 yU a0 r1 q9) y9 q22 x18 l16 = some r) _ ⟨[], y9.fTrees, 0, ([] : List GTree), 0, rfl, rfl, rfl, rfl, rfl, h⟩ .s ?_
 rintro m L τ ⟨p22, q22, x18, l16, v17, rfl, rfl, rfl, hE22, hi22, h⟩
 rcases q22 with _ | ⟨y22, q22⟩
 · have hz22 := yC hE22 hi22
   simp only [zV.l22] at h
   refine ze fun Z23 hZ23 => ?_
   have f24 := E27.idxS hx9
   have f25 := E27.fldS (f := 90) rfl rfl hx9 (o := 1) (by decide)
   refine rg tok [1, 2, 3, 4, 5, 6, 39] fun K hK => ?_
   simp only [go_sem, qb, qa, qd, cellsGEntry, yo, hz22, f24, f25]
   apply hK
   refine zx rfl ?_
   refine zJ ?_
   apply hZ15
   obtain ⟨_u26, hu26, h⟩ := bind_some h
   have gu26 := yq hu26
   have f27 := (zE E27.len l3)
   refine rgE tok [1, 2, 3, 4] fun K hK => ?_
   simp only [go_sem, qb, qe, qa, qd, qs, zO, z7, q7, qX, true_and, uf, yh, zU, yk, gu26, f27, yG, ud, q5, AV.one, qU, qB, qk, ql, qn, qH]
   apply hK
   apply hZ12
   refine rgE tok [1, 2, 3, 4] fun K hK => ?_
   simp only [go_sem, qb, qa, hw9]
   apply hK
   exact ⟨_, _, _, qw q9.length, ⟨p9 ++ [y9], q9, x5 + 1, l3 ++ [(⟨y9.fTag, l16⟩ : GEntry)], v4 + 1, rfl, rfl, rfl, hE'9, hi'9, h⟩, (.t [0, 1, 2, 3] false)⟩
 obtain ⟨hz22, hw22, hx22, hE'22, hi'22⟩ := ye hE22 hi22 hb22
 simp only [zV.l22] at h
 refine ze fun Z28 hZ28 => ?_
 have f29 := E27.idxS hx9
 have f30 := E27.fldS (f := 90) rfl rfl hx9 (o := 1) (by decide)
 refine rg tok [1, 2, 3, 4, 5, 6, 39] fun K hK => ?_
 simp only [go_sem, qb, qa, qd, cellsGEntry, yo, hz22, f29, f30]
 apply hK
 refine zA rfl ?_
 refine zf ?_
 apply hZ28
 refine ze fun Z31 hZ31 => ?_
 refine zj ?_
 have f32 := E27.idxS hx9
 have f33 := E27.fldS (f := 90) rfl rfl hx9 (o := 1) (by decide)
 have f34 := E90.idxS hx22
 have f35 := E90.loadS rfl rfl hx22
 obtain ⟨r36, hr36, h⟩ := bind_some h
 obtain ⟨_u37, hu37, h⟩ := bind_some h
 have gu37 := yq hu37
 have f38 := (zE E90.len l16)
 refine rdE [1, 2, 3, 4, 5, 6] fun K hK => ?_
 refine DW.start (T := tab) [.any, .own 2 [], .any, .at [], .any, .any, .any, .at [], .any, .any, .at [], .eff, .eff, .eff, .any, .eff] [(2, [])] ?_
 refine DW.runN tok 8 ?_
 simp only [go_sem, qb, qa, qd, cellsGEntry, cellsGTree, yo, f32, f33, qk, ql, qn]
 refine DW.runN tok 3 ?_
 simp only [go_sem, qb, qa, cellsGTree, yp, f34, f35]
 refine DW.call rfl rfl rfl (ev_law00_Tree y22 r36 hr36 _) ?_
 refine DW.runN tok 4 ?_
 simp only [go_sem, qb, qe, qa, qd, qs, zO, z7, q7, qX, true_and, uf, yh, zU, yk, cellsGTree, gu37, f38, yG, ud, q5, AV.one, qU, qB, qk, ql, qn, qH]
 refine DW.fin tok (by decide +kernel) rfl ?_
 simp only [zd, upd, qa, reduceIte, zk, zo]
 apply hK
 apply hZ31
 refine rgE tok [1, 2, 3, 4, 5, 6] fun K hK => ?_
 simp only [go_sem, qb, qa, hw22]
 apply hK
 exact ⟨_, _, _, qw q22.length, ⟨p22 ++ [y22], q22, x18 + 1, l16 ++ [r36], v17 + 1, rfl, rfl, rfl, hE'22, hi'22, h⟩, (.t [0, 1, 2, 3, 4, 5] false)⟩
def zV : Nat → GTree → Option GTree
 | 0, _ => none
 | k + 1, a0 => zV.body (zV k) a0
theorem zV.all (k : Nat) : (∀ (a0 : GTree) (r : GTree), zV k a0 = some r → ACalls qh 15 [.agg (cellsGTree a0)] [] (fun r' _ => r' = .agg (cellsGTree r))) := by
 induction k with
 | zero => exact (fun a0 r h => by simp only [zV] at h; cases h)
 | succ k ih => exact (fun a0 r h => zV.step _ ih a0 r (by simpa only [zV] using h))
theorem zV.ev (k : Nat) (a0 : GTree) (r : GTree) (h : zV k a0 = some r) (σ : Store) : ACalls qh 15 [.agg (cellsGTree a0)] σ (fun r' σ' => r' = .agg (cellsGTree r) ∧ σ' = σ) :=
 ((zV.all k) a0 r h).c σ
def we (a0 : List Int) : Option (List Int) :=
 (Yi (qc a0) 8).bind fun _u2 => some a0
theorem we.own (a0 : List Int) (r : List Int) (h : we a0 = some r) : ACalls qh 42 [.ds true (qf encI a0) (qc a0) false] [] (fun r' σ' => r' = .os true 1 0 0 0 (qc r) false ∧ σ' = [.cells 0 (qf encI r)]) := by
 refine ACalls.own0 (by simp only [push_cast]) ?_
 refine ZH (rs := [.tmp 2]) tok Tryz.func42 rfl Tryz.ntmps42 rfl Tryz.call42 (by simp) ?_
 refine zq [(0, .ds true (qf encI a0) (qc a0) false)] ⟨rfl, trivial⟩ ?_
 unfold we at h
 refine rg tok [0] fun K hK => ?_
 simp only [go_sem, qb, reduceCtorEq]
 apply hK
 have f1 := fun nl tt σ => xO E45.len a0 nl tt σ
 obtain ⟨_u2, hu2, h⟩ := bind_some h
 have gu2 := yq hu2
 refine rg tok [2] fun K hK => ?_
 simp only [go_sem, qb, qa, reduceCtorEq, yh, zU, yk, true_and, f1, gu2, Zt, qB, ql, qn]
 apply hK
 refine yg (L := [(2, .os true 1 0 0 0 (qc a0) false)]) (τ := [.cells 0 (qf encI a0)]) .s ?_
 refine zi ?_
 obtain rfl := Option.some.inj h
 simp only [Zl, yP, y1, xJ, exists_eq_left', go_sem]
 refine ⟨0, 0, by simp, ?_, ?_⟩
 · first | rfl | (simp only [go_sem, qb, qe, qa, qd, qs, qF, reduceIte, reduceCtorEq, push_cast, if_true, qz, qn, qD, qv, qE, qJ, qR, qO, qL, qI, qx, zF] <;> rfl)
 first | rfl | (simp only [go_sem, push_cast, qv, zF] <;> rfl)
theorem we.ok (a0 : List Int) (r : List Int) (h : we a0 = some r) : ACalls qh 42 [.ds true (qf encI a0) (qc a0) false] [] (fun r' _ => r' = .ds true (qf encI r) (qc r) false) :=
 (we.own a0 r h).ownData (zE E45.len r) (by simp only [push_cast])
theorem we.ev (a0 : List Int) (r : List Int) (h : we a0 = some r) (σ : Store) : ACalls qh 42 [.ds true (qf encI a0) (qc a0) false] σ (fun r' σ' => r' = .ds true (qf encI r) (qc r) false ∧ σ' = σ) :=
 (we.ok a0 r h).c σ
def yb.l19 (a0 : GSchema) (l4 : List GMessage) : List GEnumeration → Int → List GEnumeration → Option GSchema
 | [], x15, l13 => some (⟨a0.fName, l4, l13, a0.fMethods⟩ : GSchema)
 | y19 :: q19, x15, l13 => (Yi (qc y19.fValues) 24).bind fun _u28 => (Yi (qc l13 + 1) 40).bind fun _u29 => ((yb.l19 a0 l4 q19) (x15 + 1) (l13 ++ [(⟨y19.fName, y19.fValues⟩ : GEnumeration)]))
def yb.l10 (a0 : GSchema) : List GMessage → Int → List GMessage → Option GSchema
 | [], x6, l4 => (yb.l19 a0 l4 a0.fEnums 0 ([] : List GEnumeration))
 | y10 :: q10, x6, l4 => (Yi (qc y10.fFields) 56).bind fun _u36 => (we y10.fReserved).bind fun r37 => (Yi (qc l4 + 1) 64).bind fun _u38 => ((yb.l10 a0 q10) (x6 + 1) (l4 ++ [(⟨y10.fName, y10.fFields, r37⟩ : GMessage)]))
def yb (a0 : GSchema) : Option GSchema :=
 (Yi (qc a0.fMethods) 48).bind fun _u2 => (yb.l10 a0 a0.fMessages 0 ([] : List GMessage))
theorem yb.ok (a0 : GSchema) (r : GSchema) (h : yb a0 = some r) : ACalls qh 17 [.agg (encGSchema a0)] [] (fun r' _ => r' = .agg (encGSchema r)) := by
 refine zm (rs := [.cell 2 26]) tok Tryz.func17 rfl Tryz.ntmps17 rfl Tryz.call17 (by simp) ?_
 refine zq [(0, .agg (encGSchema a0))] ⟨rfl, trivial⟩ ?_
 unfold yb at h
 refine rg tok [1, 2] fun K hK => ?_
 simp only [go_sem, qb, qa, qd, reduceCtorEq, encGSchema]
 apply hK
 have f1 := fun nl tt σ => xO E24.len a0.fMethods nl tt σ
 obtain ⟨_u2, hu2, h⟩ := bind_some h
 have gu2 := yq hu2
 refine rd [1, 2, 3] fun K hK => ?_
 refine DW.start (T := tab) [.any, .own 2 [], .any, .at [], .eff, .any, .flt, .eff] [(2, [])] ?_
 refine DW.runN tok 8 ?_
 simp only [go_sem, qb, qe, qa, qd, yh, zU, yk, true_and, encGSchema, f1, gu2, Zt, ud, q5, AV.one, qU, qB, qk, ql, qn, qH]
 refine DW.fin tok (by decide +kernel) rfl ?_
 simp only [zd, upd, qa, reduceIte, zk, zo]
 apply hK
 refine wF 3 1 3 rfl (by simp) rfl (L := [(1, .op 0 0 0), (2, .op 1 0 0), (3, .op 3 0 0)]) (τ := [.cells 0 (encGSchema a0), .cells 0 [.str [], .ds true [] 0 true, .ds true [] 0 true, .ds true [] 0 true], .cells 0 (qf encGMethod a0.fMethods), .cells 0 [.str a0.fName, .os true 3 4 0 0 (qc ([] : List GMessage)) false, .ds true [] 0 true, .os true 3 2 0 0 (qc a0.fMethods) false], .cells 0 (qf encGMessage ([] : List GMessage))]) .s ?_
 refine wF 3 2 2 rfl (by simp) rfl (L := [(1, .op 0 0 0), (2, .op 1 0 0), (3, .op 3 0 0)]) (τ := [.cells 0 (encGSchema a0), .cells 0 [.str [], .ds true [] 0 true, .ds true [] 0 true, .ds true [] 0 true], .cells 0 (qf encGMethod a0.fMethods), .cells 0 [.str a0.fName, .os true 3 4 0 0 (qc ([] : List GMessage)) false, .os true 2 5 0 0 (qc ([] : List GEnumeration)) false, .os true 3 2 0 0 (qc a0.fMethods) false], .cells 0 (qf encGMessage ([] : List GMessage)), .cells 0 (qf encGEnumeration ([] : List GEnumeration))]) .s ?_
 refine yg (L := [(1, .op 0 0 0), (2, .op 1 0 0), (3, .op 3 0 0)]) (τ := [.cells 0 (encGSchema a0), .cells 0 [.str [], .ds true [] 0 true, .ds true [] 0 true, .ds true [] 0 true], .cells 0 (qf encGMethod a0.fMethods), .cells 0 [.str a0.fName, .os true 3 4 0 0 (qc ([] : List GMessage)) false, .os true 2 5 0 0 (qc ([] : List GEnumeration)) false, .os true 3 2 0 0 (qc a0.fMethods) false], .cells 0 (qf encGMessage ([] : List GMessage)), .cells 0 (qf encGEnumeration ([] : List GEnumeration))]) .s ?_
 refine ze fun Z3 hZ3 => ?_
 refine rg tok [1, 2, 3, 4] fun K hK => ?_
 simp only [go_sem, qb, qa]
 apply hK
 refine zj ?_
 refine xz 0 rfl fun hb10 => ?_
 replace hb10 : qc a0.fMessages ≤ 9223372036854775807 := hb10.2.1.1
 refine zB (fun m L τ => ∃ (p10 q10 : List GMessage) (x6 : Int) (l4 : List GMessage) (v5 : Nat), m = qc q10 ∧ L = [(1, .op 0 0 0), (2, .op 1 0 0), (3, .op 3 0 0), (4, .int .i64 x6)] ∧ τ = ([.cells 0 (encGSchema a0), .cells 0 [.str [], .ds true [] 0 true, .ds true [] 0 true, .ds true [] 0 true], .cells 0 (qf encGMethod a0.fMethods), .cells 0 [.str a0.fName, .os true 3 4 v5 0 (qc l4) false, .os true 2 5 0 0 (qc ([] : List GEnumeration)) false, .os true 3 2 0 0 (qc a0.fMethods) false], .cells v5 (qf encGMessage l4), .cells 0 (qf encGEnumeration ([] : List GEnumeration))] : Store) ∧ a0.fMessages = p10 ++ q10 ∧ x6 = (qc p10 : Int) ∧ yb.l10 a0 q10 x6 l4 = some r) _ ⟨[], a0.fMessages, 0, ([] : List GMessage), 0, rfl, rfl, rfl, rfl, rfl, h⟩ .s ?_
 rintro m L τ ⟨p10, q10, x6, l4, v5, rfl, rfl, rfl, hE10, hi10, h⟩
 rcases q10 with _ | ⟨y10, q10⟩
 · have hz10 := yC hE10 hi10
   simp only [yb.l10] at h
   refine ze fun Z11 hZ11 => ?_
   refine rg tok [1, 2, 3, 4, 17] fun K hK => ?_
   simp only [go_sem, qb, qa, qd, hz10]
   apply hK
   refine zx rfl ?_
   refine zJ ?_
   apply hZ3
   refine ze fun Z12 hZ12 => ?_
   refine rg tok [1, 2, 3, 6] fun K hK => ?_
   simp only [go_sem, qb, qa]
   apply hK
   refine zj ?_
   refine xz 0 rfl fun hb19 => ?_
   replace hb19 : qc a0.fEnums ≤ 9223372036854775807 := hb19.2.2.1.1
   refine zB (fun m L τ => ∃ (p19 q19 : List GEnumeration) (x15 : Int) (l13 : List GEnumeration) (v14 : Nat), m = qc q19 ∧ L = [(1, .op 0 0 0), (2, .op 1 0 0), (3, .op 3 0 0), (6, .int .i64 x15)] ∧ τ = ([.cells 0 (encGSchema a0), .cells 0 [.str [], .ds true [] 0 true, .ds true [] 0 true, .ds true [] 0 true], .cells 0 (qf encGMethod a0.fMethods), .cells 0 [.str a0.fName, .os true 3 4 v5 0 (qc l4) false, .os true 2 5 v14 0 (qc l13) false, .os true 3 2 0 0 (qc a0.fMethods) false], .cells v5 (qf encGMessage l4), .cells v14 (qf encGEnumeration l13)] : Store) ∧ a0.fEnums = p19 ++ q19 ∧ x15 = (qc p19 : Int) ∧ yb.l19 a0 l4 q19 x15 l13 = some r) _ ⟨[], a0.fEnums, 0, ([] : List GEnumeration), 0, rfl, rfl, rfl, rfl, rfl, h⟩ .s ?_
   rintro m L τ ⟨p19, q19, x15, l13, v14, rfl, rfl, rfl, hE19, hi19, h⟩
   rcases q19 with _ | ⟨y19, q19⟩
   · have hz19 := yC hE19 hi19
     simp only [yb.l19] at h
     refine ze fun Z20 hZ20 => ?_
     refine rg tok [1, 2, 3, 6, 43] fun K hK => ?_
     simp only [go_sem, qb, qa, qd, hz19]
     apply hK
     refine zx rfl ?_
     refine zJ ?_
     apply hZ12
     refine rg tok [2] fun K hK => ?_
     simp only [go_sem, qb, qe, qa, qd]
     apply hK
     refine zi ?_
     obtain rfl := Option.some.inj h
     exact yy
   obtain ⟨hz19, hw19, hx19, hE'19, hi'19⟩ := ye hE19 hi19 hb19
   simp only [yb.l19] at h
   refine ze fun Z21 hZ21 => ?_
   refine rg tok [1, 2, 3, 6, 43] fun K hK => ?_
   simp only [go_sem, qb, qa, qd, hz19]
   apply hK
   refine zA rfl ?_
   refine zf ?_
   apply hZ21
   refine ze fun Z22 hZ22 => ?_
   refine zj ?_
   have f23 := E23.idxS hx19
   have f24 := E23.fldS0 (f := 9) rfl rfl hx19
   have f25 := E23.idxS hx19
   have f26 := E23.fldS (f := 82) rfl rfl hx19 (o := 1) (by decide)
   have f27 := fun nl tt σ => xO E82.len y19.fValues nl tt σ
   obtain ⟨_u28, hu28, h⟩ := bind_some h
   have gu28 := yq hu28
   obtain ⟨_u29, hu29, h⟩ := bind_some h
   have gu29 := yq hu29
   have f30 := (zE E23.len l13)
   refine rdE [1, 2, 3, 6] fun K hK => ?_
   refine DW.start (T := tab) [.any, .own 2 [], .any, .own 1 [], .any, .any, .any, .own 1 [], .any, .at [], .any, .any, .any, .at [], .eff, .any, .eff, .eff, .any, .eff] [(2, []), (1, [])] ?_
   refine DW.runN tok 8 ?_
   simp only [go_sem, qb, qa, qd, encGEnumeration, encGSchema, f23, f24, qk, ql, qn]
   refine DW.runN tok 8 ?_
   simp only [go_sem, qb, qe, qa, qd, yh, zU, yk, true_and, encGEnumeration, f23, f26, f27, gu28, Zt, ud, q5, AV.one, qU, qB, qk, ql, qn, qH]
   refine DW.runN tok 4 ?_
   simp only [go_sem, qb, qe, qa, qd, qs, zO, z7, q7, qX, true_and, uf, yh, zU, yk, gu29, f30, ud, q5, AV.one, qU, qB, qk, ql, qn, qH, yG]
   refine DW.fin tok (by decide +kernel) rfl ?_
   simp only [zd, upd, qa, reduceIte, zk, zo]
   apply hK
   apply hZ22
   refine rgE tok [1, 2, 3, 6] fun K hK => ?_
   simp only [go_sem, qb, qa, hw19]
   apply hK
   exact ⟨_, _, _, qw q19.length, ⟨p19 ++ [y19], q19, x15 + 1, l13 ++ [(⟨y19.fName, y19.fValues⟩ : GEnumeration)], v14 + 1, rfl, rfl, rfl, hE'19, hi'19, h⟩, (.t [0, 1, 2, 3, 4, 5] false)⟩
 obtain ⟨hz10, hw10, hx10, hE'10, hi'10⟩ := ye hE10 hi10 hb10
 simp only [yb.l10] at h
 refine ze fun Z31 hZ31 => ?_
 refine rg tok [1, 2, 3, 4, 17] fun K hK => ?_
 simp only [go_sem, qb, qa, qd, hz10]
 apply hK
 refine zA rfl ?_
 refine zf ?_
 apply hZ31
 refine ze fun Z32 hZ32 => ?_
 refine zj ?_
 have f33 := E22.idxS hx10
 have f34 := E22.loadS rfl rfl hx10
 refine rg tok [1, 2, 3, 4, 5] fun K hK => ?_
 simp only [go_sem, qb, qe, qa, qd, encGMessage, f33, f34]
 apply hK
 have f35 := fun nl tt σ => xO E47.len y10.fFields nl tt σ
 obtain ⟨_u36, hu36, h⟩ := bind_some h
 have gu36 := yq hu36
 obtain ⟨r37, hr37, h⟩ := bind_some h
 obtain ⟨_u38, hu38, h⟩ := bind_some h
 have gu38 := yq hu38
 have f39 := (zE E22.len l4)
 refine rdE [1, 2, 3, 4] fun K hK => ?_
 refine DW.start (T := tab) [.any, .own 3 [], .any, .own 2 [], .any, .at [], .eff, .any, .own 1 [], .eff, .any, .eff, .eff, .any, .eff] [(3, []), (2, []), (1, [])] ?_
 refine DW.runN tok 8 ?_
 simp only [go_sem, qb, qe, qa, qd, yh, zU, yk, true_and, encGSchema, f35, gu36, Zt, uj, qB, qk, ql, qn, qH]
 refine DW.runN tok 1 ?_
 simp only [go_sem, qb, qa, qd, qk, ql, qn]
 refine DW.call rfl rfl rfl (we.ev y10.fReserved r37 hr37 _) ?_
 refine DW.runN tok 5 ?_
 simp only [go_sem, qb, qe, qa, qd, qs, zO, z7, q7, qX, true_and, uf, yh, zU, yk, gu38, f39, ud, q5, AV.one, qU, qB, qk, ql, qn, qH, yG]
 refine DW.fin tok (by decide +kernel) rfl ?_
 simp only [zd, upd, qa, reduceIte, zk, zo]
 apply hK
 apply hZ32
 refine rgE tok [1, 2, 3, 4] fun K hK => ?_
 simp only [go_sem, qb, qa, hw10]
 apply hK
 exact ⟨_, _, _, qw q10.length, ⟨p10 ++ [y10], q10, x6 + 1, l4 ++ [(⟨y10.fName, y10.fFields, r37⟩ : GMessage)], v5 + 1, rfl, rfl, rfl, hE'10, hi'10, h⟩, (.t [0, 1, 2, 3, 4, 5] false)⟩
theorem yb.ev (a0 : GSchema) (r : GSchema) (h : yb a0 = some r) (σ : Store) : ACalls qh 17 [.agg (encGSchema a0)] σ (fun r' σ' => r' = .agg (encGSchema r) ∧ σ' = σ) :=
 (yb.ok a0 r h).c σ
def xG (a0 : List UInt8) : Option (List UInt8) :=
 (Yi (qc a0) 1).bind fun _u2 => some a0
theorem xG.own (a0 : List UInt8) (r : List UInt8) (h : xG a0 = some r) : ACalls qh 18 [.ds true (qf encB a0) (qc a0) false] [] (fun r' σ' => r' = .os true 1 0 0 0 (qc r) false ∧ σ' = [.cells 0 (qf encB r)]) := by
 refine ACalls.own0 (by simp only [push_cast]) ?_
 refine ZH (rs := [.tmp 2]) tok Tryz.func18 rfl Tryz.ntmps18 rfl Tryz.call18 (by simp) ?_
 refine zq [(0, .ds true (qf encB a0) (qc a0) false)] ⟨rfl, trivial⟩ ?_
 unfold xG at h
 refine rg tok [0] fun K hK => ?_
 simp only [go_sem, qb, reduceCtorEq]
 apply hK
 have f1 := fun nl tt σ => xO E34.len a0 nl tt σ
 obtain ⟨_u2, hu2, h⟩ := bind_some h
 have gu2 := yq hu2
 refine rg tok [2] fun K hK => ?_
 simp only [go_sem, qb, qa, reduceCtorEq, yh, zU, yk, true_and, f1, gu2, Zt, qB, ql, qn]
 apply hK
 refine yg (L := [(2, .os true 1 0 0 0 (qc a0) false)]) (τ := [.cells 0 (qf encB a0)]) .s ?_
 refine zi ?_
 obtain rfl := Option.some.inj h
 simp only [Zl, yP, y1, xJ, exists_eq_left', go_sem]
 refine ⟨0, 0, by simp, ?_, ?_⟩
 · first | rfl | (simp only [go_sem, qb, qe, qa, qd, qs, qF, reduceIte, reduceCtorEq, push_cast, if_true, qz, qn, qD, qv, qE, qJ, qR, qO, qL, qI, qx, zF] <;> rfl)
 first | rfl | (simp only [go_sem, push_cast, qv, zF] <;> rfl)
theorem xG.ok (a0 : List UInt8) (r : List UInt8) (h : xG a0 = some r) : ACalls qh 18 [.ds true (qf encB a0) (qc a0) false] [] (fun r' _ => r' = .ds true (qf encB r) (qc r) false) :=
 (xG.own a0 r h).ownData (zE E34.len r) (by simp only [push_cast])
theorem xG.ev (a0 : List UInt8) (r : List UInt8) (h : xG a0 = some r) (σ : Store) : ACalls qh 18 [.ds true (qf encB a0) (qc a0) false] σ (fun r' σ' => r' = .ds true (qf encB r) (qc r) false ∧ σ' = σ) :=
 (xG.ok a0 r h).c σ
def wL (a0 : List UInt8) (a1 : Int) : Option Int :=
 (if (qc a0 : Int) ≤ a1 then some true else (wW a0 a1).bind fun b2 => some (decide ((b2.toNat : Int) < 128))).bind fun c2 => (if c2 = true then some true else (wW a0 a1).bind fun b7 => some (decide (191 < (b7.toNat : Int)))).bind fun c7 => (if c7 = true then some (-1) else (wW a0 a1).bind fun b11 => some (IntKind.i64.wrap ((IntKind.i64.wrap (b11.toNat : Int)) - 128)))
theorem wL.ok (a0 : List UInt8) (a1 : Int) (r : Int) (h : wL a0 a1 = some r) : ACalls qh 146 [.str a0, .int .i64 a1] [] (fun r' _ => r' = .int .i64 r) := by
 refine zm (rs := [.tmp 4]) tok Tryz.func146 rfl Tryz.ntmps146 rfl Tryz.call146 (by simp) ?_
 refine zq [(0, .str a0), (1, .int .i64 a1)] ⟨rfl, rfl, trivial⟩ ?_
 unfold wL at h
 refine rg tok [0, 1] fun K hK => ?_
 simp only [go_sem, qb, qa, reduceCtorEq]
 apply hK
 refine ze fun Z1 hZ1 => ?_
 refine rc [0, 1, 20] fun K hK => ?_
 refine za tok 5 ?_
 simp only [go_sem, qb, qa, reduceCtorEq]
 obtain ⟨c2, hc2, h⟩ := bind_some h
 refine zn 5 (fun L τ => L = [(0, .str a0), (1, .int .i64 a1), (14, .bool c2)] ∧ τ = ([] : Store)) ?_ ?_
 · refine yH 9 rfl (fun hg9 => ?_) (fun hg9 => ?_)
   · have t3 := eq_true hg9
     rw [if_pos hg9] at hc2
     refine za tok 5 ?_
     simp only [go_sem, qb, qa, reduceCtorEq]
     obtain rfl := Option.some.inj hc2
     refine zb ⟨rfl, _, _, ⟨rfl, rfl⟩, .p t3⟩
   have t4 := eq_false hg9
   rw [if_neg hg9] at hc2
   obtain ⟨b5, hb5, hc2⟩ := bind_some hc2
   have f6 := idx_str (T := tab) (t := 9) rfl rfl hb5
   refine za tok 5 ?_
   simp only [go_sem, qb, qa, reduceCtorEq, f6]
   obtain rfl := Option.some.inj hc2
   refine zb ⟨rfl, _, _, ⟨rfl, rfl⟩, .p t4⟩
 rintro _ _ ⟨rfl, rfl⟩
 refine za tok 1 ?_
 simp only [go_sem, qb, qa, reduceCtorEq]
 obtain ⟨c7, hc7, h⟩ := bind_some h
 refine zn 5 (fun L τ => L = [(0, .str a0), (1, .int .i64 a1), (20, .bool c7)] ∧ τ = ([] : Store)) ?_ ?_
 · refine zQ (b := c2) 15 rfl (fun hg15 => ?_) (fun hg15 => ?_)
   · rw [if_pos hg15] at hc7
     refine za tok 5 ?_
     simp only [go_sem, qb, qa, reduceCtorEq]
     obtain rfl := Option.some.inj hc7
     refine zb ⟨rfl, _, _, ⟨rfl, rfl⟩, .b hg15⟩
   rw [xK hg15] at hc7
   obtain ⟨b8, hb8, hc7⟩ := bind_some hc7
   have f9 := idx_str (T := tab) (t := 9) rfl rfl hb8
   refine za tok 5 ?_
   simp only [go_sem, qb, qa, reduceCtorEq, f9]
   obtain rfl := Option.some.inj hc7
   refine zb ⟨rfl, _, _, ⟨rfl, rfl⟩, .b hg15⟩
 rintro _ _ ⟨rfl, rfl⟩
 refine zb ?_
 simp only [zd, qa, reduceIte, zk, zo]
 apply hK
 refine zt (b := c7) rfl (fun hc10 => ?_) (fun hc10 => ?_)
 · rw [if_pos hc10] at h
   refine rg tok [4] fun K hK => ?_
   simp only [go_sem, qb, qa, reduceCtorEq]
   apply hK
   refine zi ?_
   obtain rfl := Option.some.inj h
   exact yy
 rw [xK hc10] at h
 refine zf ?_
 apply hZ1
 obtain ⟨b11, hb11, h⟩ := bind_some h
 have f12 := idx_str (T := tab) (t := 9) rfl rfl hb11
 have f13 := xM (T := tab) (src := 5) (dst := 3) rfl rfl rfl
 refine rg tok [4] fun K hK => ?_
 simp only [go_sem, qb, qa, reduceCtorEq, f12, f13]
 apply hK
 refine zi ?_
 obtain rfl := Option.some.inj h
 exact yy
theorem wL.ev (a0 : List UInt8) (a1 : Int) (r : Int) (h : wL a0 a1 = some r) (σ : Store) : ACalls qh 146 [.str a0, .int .i64 a1] σ (fun r' σ' => r' = .int .i64 r ∧ σ' = σ) :=
 (wL.ok a0 a1 r h).c σ
def yu.l17 (a0 : List UInt8) (a1 : Int) (x8 : Int) (x10 : Int) : Nat → Int → Int → Option (Int × Int × Bool)
 | 0, _, _ => none
 | k17 + 1, x13, x14 => (if x14 < x8 then (wL a0 (IntKind.i64.wrap (a1 + x14))).bind fun r22 => (if r22 < 0 then some (0, 0, false) else ((yu.l17 a0 a1 x8 x10 k17) (IntKind.i64.wrap ((IntKind.i64.wrap (64 * x13)) + r22)) (IntKind.i64.wrap (x14 + 1)))) else (if (((decide (x13 < x10)) || (decide (1114111 < x13))) || ((decide (55296 ≤ x13)) && (decide (x13 ≤ 57343)))) = true then some (0, 0, false) else some (IntKind.i32.wrap x13, x8, true)))
def yu.j11 (a0 : List UInt8) (a1 : Int) (x8 : Int) (x9 : Int) (x10 : Int) : Option (Int × Int × Bool) :=
 (yu.l17 a0 a1 x8 x10 rounds x9 1)
def yu (a0 : List UInt8) (a1 : Int) : Option (Int × Int × Bool) :=
 (if ((decide (a1 < 0)) || (decide ((qc a0 : Int) ≤ a1))) = true then some (0, 0, false) else (wW a0 a1).bind fun b5 => (if IntKind.i64.wrap (b5.toNat : Int) < 128 then some (IntKind.i32.wrap (IntKind.i64.wrap (b5.toNat : Int)), 1, true) else (if ((decide (192 ≤ IntKind.i64.wrap (b5.toNat : Int))) && (decide (IntKind.i64.wrap (b5.toNat : Int) < 224))) = true then (yu.j11 a0 a1 2 (IntKind.i64.wrap ((IntKind.i64.wrap (b5.toNat : Int)) - 192)) 128) else (if ((decide (224 ≤ IntKind.i64.wrap (b5.toNat : Int))) && (decide (IntKind.i64.wrap (b5.toNat : Int) < 240))) = true then (yu.j11 a0 a1 3 (IntKind.i64.wrap ((IntKind.i64.wrap (b5.toNat : Int)) - 224)) 2048) else (if ((decide (240 ≤ IntKind.i64.wrap (b5.toNat : Int))) && (decide (IntKind.i64.wrap (b5.toNat : Int) < 248))) = true then (yu.j11 a0 a1 4 (IntKind.i64.wrap ((IntKind.i64.wrap (b5.toNat : Int)) - 240)) 65536) else some (0, 0, false))))))
theorem yu.ok (a0 : List UInt8) (a1 : Int) (r : Int × Int × Bool) (h : yu a0 a1 = some r) : ACalls qh 120 [.str a0, .int .i64 a1] [] (fun r' _ => r' = .tup [.int .i32 r.1, .int .i64 r.2.1, .bool r.2.2]) := by
 refine zm (rs := [.tmp 4, .tmp 5, .tmp 6]) tok Tryz.func120 rfl Tryz.ntmps120 rfl Tryz.call120 (by simp) ?_
 refine zq [(0, .str a0), (1, .int .i64 a1)] ⟨rfl, rfl, trivial⟩ ?_
 unfold yu at h
 refine rg tok [0, 1] fun K hK => ?_
 simp only [go_sem, qb, qa, reduceCtorEq]
 apply hK
 refine ze fun Z1 hZ1 => ?_
 refine rc [0, 1, 20] fun K hK => ?_
 refine za tok 3 ?_
 simp only [go_sem, qb, qa, reduceCtorEq]
 refine zn 5 (fun L τ => L = [(0, .str a0), (1, .int .i64 a1), (20, .bool ((decide (a1 < 0)) || (decide ((qc a0 : Int) ≤ a1))))] ∧ τ = ([] : Store)) ?_ ?_
 · refine yH 15 rfl (fun hg15 => ?_) (fun hg15 => ?_)
   · have t2 := eq_true hg15
     refine za tok 5 ?_
     simp only [go_sem, qb, qa, reduceCtorEq]
     refine zb ⟨rfl, _, _, ⟨rfl, rfl⟩, .p t2⟩
   have t3 := eq_false hg15
   refine za tok 5 ?_
   simp only [go_sem, qb, qa, reduceCtorEq]
   refine zb ⟨rfl, _, _, ⟨rfl, rfl⟩, .p t3⟩
 rintro _ _ ⟨rfl, rfl⟩
 refine zb ?_
 simp only [zd, qa, reduceIte, zk, zo]
 apply hK
 refine zt (b := ((decide (a1 < 0)) || (decide ((qc a0 : Int) ≤ a1)))) rfl (fun hc4 => ?_) (fun hc4 => ?_)
 · rw [if_pos hc4] at h
   refine rg tok [4, 5, 6] fun K hK => ?_
   simp only [go_sem, qb, qa, reduceCtorEq]
   apply hK
   refine zi ?_
   obtain rfl := Option.some.inj h
   exact yy
 rw [xK hc4] at h
 refine zf ?_
 apply hZ1
 obtain ⟨b5, hb5, h⟩ := bind_some h
 have f6 := idx_str (T := tab) (t := 9) rfl rfl hb5
 have f7 := xM (T := tab) (src := 5) (dst := 3) rfl rfl rfl
 refine rg tok [0, 1, 7] fun K hK => ?_
 simp only [go_sem, qb, qa, reduceCtorEq, f6, f7]
 apply hK
 refine rg tok [0, 1, 7] fun K hK => ?_
 simp only [go_sem, qb, qa, reduceCtorEq]
 apply hK
 refine xN (fun L τ => ∃ (x8 : Int) (x9 : Int) (x10 : Int), L = [(0, .str a0), (1, .int .i64 a1), (8, .int .i64 x8), (9, .int .i64 x9), (10, .int .i64 x10)] ∧ τ = ([] : Store) ∧ yu.j11 a0 a1 x8 x9 x10 = some r) ?_ ?_
 · refine zj ?_
   refine rg tok [0, 1, 7, 26] fun K hK => ?_
   simp only [go_sem, qb, qa, reduceCtorEq]
   apply hK
   refine zI rfl (fun hc35 => ?_) (fun hc35 => ?_)
   · rw [if_pos hc35] at h
     have t36 := eq_true hc35
     have f37 := xM (T := tab) (src := 3) (dst := 21) rfl rfl rfl
     refine rg tok [4, 5, 6] fun K hK => ?_
     simp only [go_sem, qb, qa, reduceCtorEq, t36, f37]
     apply hK
     refine zi ?_
     obtain rfl := Option.some.inj h
     exact yy
   rw [if_neg hc35] at h
   have t38 := eq_false hc35
   refine rc [0, 1, 7, 31] fun K hK => ?_
   refine za tok 3 ?_
   simp only [go_sem, qb, qa, reduceCtorEq, t38]
   refine zn 3 (fun L τ => L = [(0, .str a0), (1, .int .i64 a1), (7, .int .i64 (IntKind.i64.wrap (b5.toNat : Int))), (37, .bool ((decide (192 ≤ IntKind.i64.wrap (b5.toNat : Int))) && (decide (IntKind.i64.wrap (b5.toNat : Int) < 224))))] ∧ τ = ([] : Store)) ?_ ?_
   · refine yH 34 rfl (fun hg34 => ?_) (fun hg34 => ?_)
     · have t39 := eq_true hg34
       refine za tok 3 ?_
       simp only [go_sem, qb, qa, reduceCtorEq]
       refine zb ⟨rfl, _, _, ⟨rfl, rfl⟩, .p t39⟩
     have t40 := eq_false hg34
     refine za tok 3 ?_
     simp only [go_sem, qb, qa, reduceCtorEq]
     refine zb ⟨rfl, _, _, ⟨rfl, rfl⟩, .p t40⟩
   rintro _ _ ⟨rfl, rfl⟩
   refine za tok 1 ?_
   simp only [go_sem, qb, qa, reduceCtorEq]
   refine zb ?_
   simp only [zd, upd, qa, reduceIte, zk, zo]
   apply hK
   refine zt (b := ((decide (192 ≤ IntKind.i64.wrap (b5.toNat : Int))) && (decide (IntKind.i64.wrap (b5.toNat : Int) < 224)))) rfl (fun hc41 => ?_) (fun hc41 => ?_)
   · rw [if_pos hc41] at h
     refine rgE tok [0, 1, 8, 9, 10] fun K hK => ?_
     simp only [go_sem, qb, qa, reduceCtorEq]
     apply hK
     exact ⟨_, _, ⟨2, IntKind.i64.wrap ((IntKind.i64.wrap (b5.toNat : Int)) - 192), 128, rfl, rfl, h⟩, .s⟩
   rw [xK hc41] at h
   refine rc [0, 1, 7, 40] fun K hK => ?_
   refine za tok 3 ?_
   simp only [go_sem, qb, qa, reduceCtorEq]
   refine zn 3 (fun L τ => L = [(0, .str a0), (1, .int .i64 a1), (7, .int .i64 (IntKind.i64.wrap (b5.toNat : Int))), (46, .bool ((decide (224 ≤ IntKind.i64.wrap (b5.toNat : Int))) && (decide (IntKind.i64.wrap (b5.toNat : Int) < 240))))] ∧ τ = ([] : Store)) ?_ ?_
   · refine yH 43 rfl (fun hg43 => ?_) (fun hg43 => ?_)
     · have t42 := eq_true hg43
       refine za tok 3 ?_
       simp only [go_sem, qb, qa, reduceCtorEq]
       refine zb ⟨rfl, _, _, ⟨rfl, rfl⟩, .p t42⟩
     have t43 := eq_false hg43
     refine za tok 3 ?_
     simp only [go_sem, qb, qa, reduceCtorEq]
     refine zb ⟨rfl, _, _, ⟨rfl, rfl⟩, .p t43⟩
   rintro _ _ ⟨rfl, rfl⟩
   refine za tok 1 ?_
   simp only [go_sem, qb, qa, reduceCtorEq]
   refine zb ?_
   simp only [zd, upd, qa, reduceIte, zk, zo]
   apply hK
   refine zt (b := ((decide (224 ≤ IntKind.i64.wrap (b5.toNat : Int))) && (decide (IntKind.i64.wrap (b5.toNat : Int) < 240)))) rfl (fun hc44 => ?_) (fun hc44 => ?_)
   · rw [if_pos hc44] at h
     refine rgE tok [0, 1, 8, 9, 10] fun K hK => ?_
     simp only [go_sem, qb, qa, reduceCtorEq]
     apply hK
     exact ⟨_, _, ⟨3, IntKind.i64.wrap ((IntKind.i64.wrap (b5.toNat : Int)) - 224), 2048, rfl, rfl, h⟩, .s⟩
   rw [xK hc44] at h
   refine rc [0, 1, 7, 49] fun K hK => ?_
   refine za tok 3 ?_
   simp only [go_sem, qb, qa, reduceCtorEq]
   refine zn 3 (fun L τ => L = [(0, .str a0), (1, .int .i64 a1), (7, .int .i64 (IntKind.i64.wrap (b5.toNat : Int))), (55, .bool ((decide (240 ≤ IntKind.i64.wrap (b5.toNat : Int))) && (decide (IntKind.i64.wrap (b5.toNat : Int) < 248))))] ∧ τ = ([] : Store)) ?_ ?_
   · refine yH 52 rfl (fun hg52 => ?_) (fun hg52 => ?_)
     · have t45 := eq_true hg52
       refine za tok 3 ?_
       simp only [go_sem, qb, qa, reduceCtorEq]
       refine zb ⟨rfl, _, _, ⟨rfl, rfl⟩, .p t45⟩
     have t46 := eq_false hg52
     refine za tok 3 ?_
     simp only [go_sem, qb, qa, reduceCtorEq]
     refine zb ⟨rfl, _, _, ⟨rfl, rfl⟩, .p t46⟩
   rintro _ _ ⟨rfl, rfl⟩
   refine za tok 1 ?_
   simp only [go_sem, qb, qa, reduceCtorEq]
   refine zb ?_
   simp only [zd, upd, qa, reduceIte, zk, zo]
   apply hK
   refine zt (b := ((decide (240 ≤ IntKind.i64.wrap (b5.toNat : Int))) && (decide (IntKind.i64.wrap (b5.toNat : Int) < 248)))) rfl (fun hc47 => ?_) (fun hc47 => ?_)
   · rw [if_pos hc47] at h
     refine rgE tok [0, 1, 8, 9, 10] fun K hK => ?_
     simp only [go_sem, qb, qa, reduceCtorEq]
     apply hK
     exact ⟨_, _, ⟨4, IntKind.i64.wrap ((IntKind.i64.wrap (b5.toNat : Int)) - 240), 65536, rfl, rfl, h⟩, .s⟩
   rw [xK hc47] at h
   refine rg tok [4, 5, 6] fun K hK => ?_
   simp only [go_sem, qb, qa, reduceCtorEq]
   apply hK
   refine zi ?_
   obtain rfl := Option.some.inj h
   exact yy
 rintro _ _ ⟨x8, x9, x10, rfl, rfl, h⟩
 unfold yu.j11 at h
 refine ze fun Z12 hZ12 => ?_
 refine rg tok [0, 1, 8, 9, 10, 11] fun K hK => ?_
 simp only [go_sem, qb, qa, reduceCtorEq]
 apply hK
 refine zj ?_
 refine zB (fun m L τ => ∃ (k17 : Nat) (x13 : Int) (x14 : Int), m = 0 + k17 ∧ L = [(0, .str a0), (1, .int .i64 a1), (8, .int .i64 x8), (9, .int .i64 x13), (10, .int .i64 x10), (11, .int .i64 x14)] ∧ τ = ([] : Store) ∧ yu.l17 a0 a1 x8 x10 k17 x13 x14 = some r) _ ⟨rounds, x9, 1, rfl, rfl, rfl, h⟩ .s ?_
 rintro m L τ ⟨k17, x13, x14, rfl, rfl, rfl, h⟩
 rcases k17 with _ | k17
 · cases h
 simp only [yu.l17] at h
 refine ze fun Z18 hZ18 => ?_
 refine rg tok [0, 1, 8, 9, 10, 11, 60] fun K hK => ?_
 simp only [go_sem, qb, qa, reduceCtorEq]
 apply hK
 refine zI rfl (fun hc19 => ?_) (fun hc19 => ?_)
 · rw [if_pos hc19] at h
   have t20 := eq_true hc19
   refine zf ?_
   apply hZ18
   refine ze fun Z21 hZ21 => ?_
   refine zj ?_
   refine rc [0, 1, 8, 9, 10, 11, 12] fun K hK => ?_
   obtain ⟨r22, hr22, h⟩ := bind_some h
   refine za tok 4 ?_
   simp only [go_sem, qb, qa, reduceCtorEq, t20]
   refine zh rfl rfl rfl (wL.ev a0 (IntKind.i64.wrap (a1 + x14)) r22 hr22 _) ?_
   rintro _ _ ⟨rfl, rfl⟩
   refine za tok 1 ?_
   simp only [go_sem, qb, qa, reduceCtorEq]
   refine zb ?_
   simp only [zd, upd, qa, reduceIte, zk, zo]
   apply hK
   refine ze fun Z23 hZ23 => ?_
   refine rg tok [0, 1, 8, 9, 10, 11, 12, 69] fun K hK => ?_
   simp only [go_sem, qb, qa, reduceCtorEq]
   apply hK
   refine zI rfl (fun hc24 => ?_) (fun hc24 => ?_)
   · rw [if_pos hc24] at h
     have t25 := eq_true hc24
     refine rg tok [4, 5, 6] fun K hK => ?_
     simp only [go_sem, qb, qa, reduceCtorEq, t25]
     apply hK
     refine zi ?_
     obtain rfl := Option.some.inj h
     exact yy
   rw [if_neg hc24] at h
   have t26 := eq_false hc24
   refine zf ?_
   apply hZ23
   refine rgE tok [0, 1, 8, 9, 10, 11] fun K hK => ?_
   simp only [go_sem, qb, qa, reduceCtorEq, t26]
   apply hK
   apply hZ21
   refine rgE tok [0, 1, 8, 9, 10, 11] fun K hK => ?_
   simp only [go_sem, qb, qa, reduceCtorEq]
   apply hK
   exact ⟨_, _, _, qw (0 + k17), ⟨k17, IntKind.i64.wrap ((IntKind.i64.wrap (64 * x13)) + r22), IntKind.i64.wrap (x14 + 1), rfl, rfl, rfl, h⟩, .s⟩
 rw [if_neg hc19] at h
 have t27 := eq_false hc19
 refine zJ ?_
 apply hZ12
 refine ze fun Z28 hZ28 => ?_
 refine rc [8, 9, 88] fun K hK => ?_
 refine za tok 4 ?_
 simp only [go_sem, qb, qa, reduceCtorEq, t27]
 refine zn 3 (fun L τ => L = [(8, .int .i64 x8), (9, .int .i64 x13), (80, .bool ((decide (x13 < x10)) || (decide (1114111 < x13))))] ∧ τ = ([] : Store)) ?_ ?_
 · refine yH 77 rfl (fun hg77 => ?_) (fun hg77 => ?_)
   · have t29 := eq_true hg77
     refine za tok 3 ?_
     simp only [go_sem, qb, qa, reduceCtorEq]
     refine zb ⟨rfl, _, _, ⟨rfl, rfl⟩, .p t29⟩
   have t30 := eq_false hg77
   refine za tok 3 ?_
   simp only [go_sem, qb, qa, reduceCtorEq]
   refine zb ⟨rfl, _, _, ⟨rfl, rfl⟩, .p t30⟩
 rintro _ _ ⟨rfl, rfl⟩
 refine za tok 1 ?_
 simp only [go_sem, qb, qa]
 refine zn 7 (fun L τ => L = [(8, .int .i64 x8), (9, .int .i64 x13), (88, .bool (((decide (x13 < x10)) || (decide (1114111 < x13))) || ((decide (55296 ≤ x13)) && (decide (x13 ≤ 57343)))))] ∧ τ = ([] : Store)) ?_ ?_
 · refine zQ (b := ((decide (x13 < x10)) || (decide (1114111 < x13)))) 81 rfl (fun hg81 => ?_) (fun hg81 => ?_)
   · refine za tok 7 ?_
     simp only [go_sem, qb, qa]
     refine zb ⟨rfl, _, _, ⟨rfl, rfl⟩, .b hg81⟩
   refine za tok 3 ?_
   simp only [go_sem, qb, qa]
   refine zn 3 (fun L τ => L = [(8, .int .i64 x8), (9, .int .i64 x13), (81, .bool false), (87, .bool ((decide (55296 ≤ x13)) && (decide (x13 ≤ 57343))))] ∧ τ = ([] : Store)) ?_ ?_
   · refine yH 84 rfl (fun hg84 => ?_) (fun hg84 => ?_)
     · have t31 := eq_true hg84
       refine za tok 3 ?_
       simp only [go_sem, qb, qa]
       refine zb ⟨rfl, _, _, ⟨rfl, rfl⟩, .p t31⟩
     have t32 := eq_false hg84
     refine za tok 3 ?_
     simp only [go_sem, qb, qa]
     refine zb ⟨rfl, _, _, ⟨rfl, rfl⟩, .p t32⟩
   rintro _ _ ⟨rfl, rfl⟩
   refine za tok 1 ?_
   simp only [go_sem, qb, qa]
   refine zb ⟨rfl, _, _, ⟨rfl, rfl⟩, .b hg81⟩
 rintro _ _ ⟨rfl, rfl⟩
 refine zb ?_
 simp only [zd, qa, reduceIte, zk, zo]
 apply hK
 refine zt (b := (((decide (x13 < x10)) || (decide (1114111 < x13))) || ((decide (55296 ≤ x13)) && (decide (x13 ≤ 57343))))) rfl (fun hc33 => ?_) (fun hc33 => ?_)
 · rw [if_pos hc33] at h
   refine rg tok [4, 5, 6] fun K hK => ?_
   simp only [go_sem, qb, qa]
   apply hK
   refine zi ?_
   obtain rfl := Option.some.inj h
   exact yy
 rw [xK hc33] at h
 refine zf ?_
 apply hZ28
 have f34 := xM (T := tab) (src := 3) (dst := 21) rfl rfl rfl
 refine rg tok [4, 5, 6] fun K hK => ?_
 simp only [go_sem, qb, qa, f34]
 apply hK
 refine zi ?_
 obtain rfl := Option.some.inj h
 exact yy
theorem yu.ev (a0 : List UInt8) (a1 : Int) (r : Int × Int × Bool) (h : yu a0 a1 = some r) (σ : Store) : ACalls qh 120 [.str a0, .int .i64 a1] σ (fun r' σ' => r' = .tup [.int .i32 r.1, .int .i64 r.2.1, .bool r.2.2] ∧ σ' = σ) :=
 (yu.ok a0 a1 r h).c σ
def xP.l8 (a0 : List UInt8) : Nat → List Int → Int → Option (List Int × Bool)
 | 0, _, _ => none
 | k8 + 1, l2, x4 => (if x4 < (qc a0 : Int) then (yu a0 x4).bind fun r12 => (if (!r12.2.2) = true then some (([] : List Int), false) else (Yi (qc l2 + 1) 4).bind fun _u15 => ((xP.l8 a0 k8) (l2 ++ [r12.1]) (IntKind.i64.wrap (x4 + r12.2.1)))) else some (l2, true))
def xP (a0 : List UInt8) : Option (List Int × Bool) :=
 (xP.l8 a0 rounds ([] : List Int) 0)
theorem xP.ok (a0 : List UInt8) (r : List Int × Bool) (h : xP a0 = some r) : ACalls qh 78 [.str a0] [] (fun r' _ => r' = .tup [.ds true (qf (vaz .i32) r.1) (qc r.1) false, .bool r.2]) := by
 refine zm (rs := [.tmp 2, .tmp 3]) tok Tryz.func78 rfl Tryz.ntmps78 rfl Tryz.call78 (by simp) ?_
 refine zq [(0, .str a0)] ⟨rfl, trivial⟩ ?_
 unfold xP at h
 refine rg tok [0] fun K hK => ?_
 simp only [go_sem, qb, reduceCtorEq]
 apply hK
 refine rg tok [0, 4] fun K hK => ?_
 simp only [go_sem, qb, reduceCtorEq]
 apply hK
 refine Zx 4 1 rfl ?_
 refine yg (L := [(0, .str a0), (4, .os true 1 0 0 0 (qc ([] : List Int)) false)]) (τ := [.cells 0 (qf (vaz .i32) ([] : List Int))]) .s ?_
 refine ze fun Z1 hZ1 => ?_
 refine rg tok [0, 4, 5] fun K hK => ?_
 simp only [go_sem, qb, qa, reduceCtorEq]
 apply hK
 refine zj ?_
 refine zB (fun m L τ => ∃ (k8 : Nat) (l2 : List Int) (x4 : Int) (v3 : Nat), m = 0 + k8 ∧ L = [(0, .str a0), (4, .os true 1 0 v3 0 (qc l2) false), (5, .int .i64 x4)] ∧ τ = ([.cells v3 (qf (vaz .i32) l2)] : Store) ∧ xP.l8 a0 k8 l2 x4 = some r) _ ⟨rounds, ([] : List Int), 0, 0, rfl, rfl, rfl, h⟩ .s ?_
 rintro m L τ ⟨k8, l2, x4, v3, rfl, rfl, rfl, h⟩
 rcases k8 with _ | k8
 · cases h
 simp only [xP.l8] at h
 refine ze fun Z9 hZ9 => ?_
 refine rg tok [0, 4, 5, 12] fun K hK => ?_
 simp only [go_sem, qb, qa, reduceCtorEq]
 apply hK
 refine zI rfl (fun hc10 => ?_) (fun hc10 => ?_)
 · rw [if_pos hc10] at h
   have t11 := eq_true hc10
   refine zf ?_
   apply hZ9
   refine zj ?_
   refine rc [0, 4, 5, 6, 7, 8] fun K hK => ?_
   obtain ⟨r12, hr12, h⟩ := bind_some h
   refine za tok 2 ?_
   simp only [go_sem, qb, qa, reduceCtorEq, t11]
   refine zh rfl rfl rfl (yu.ev a0 x4 r12 hr12 _) ?_
   rintro _ _ ⟨rfl, rfl⟩
   refine za tok 7 ?_
   simp only [go_sem, qb, qa, qd, reduceCtorEq]
   refine zb ?_
   simp only [zd, upd, qa, reduceIte, zk, zo]
   apply hK
   refine ze fun Z13 hZ13 => ?_
   refine rg tok [0, 4, 5, 6, 7, 21] fun K hK => ?_
   simp only [go_sem, qb, qa, reduceCtorEq]
   apply hK
   refine zt (b := (!r12.2.2)) rfl (fun hc14 => ?_) (fun hc14 => ?_)
   · rw [if_pos hc14] at h
     refine rg tok [2, 3] fun K hK => ?_
     simp only [go_sem, qb, qa, reduceCtorEq]
     apply hK
     refine zi ?_
     obtain rfl := Option.some.inj h
     exact yy
   rw [xK hc14] at h
   refine zf ?_
   apply hZ13
   obtain ⟨_u15, hu15, h⟩ := bind_some h
   have gu15 := yq hu15
   have f16 := (zE E130.len l2)
   refine rg tok [0, 4, 5, 7] fun K hK => ?_
   simp only [go_sem, qb, qe, qa, qs, reduceCtorEq, zO, z7, q7, qX, true_and, uf, yh, zU, yk, gu15, f16, yG, ud, q5, AV.one, qU, qB, qk, ql, qn, qH]
   apply hK
   refine yg (L := [(0, .str a0), (4, .os true 1 0 (v3 + 1) 0 (qc (l2 ++ [r12.1])) false), (5, .int .i64 x4), (7, .int .i64 r12.2.1)]) (τ := [.cells (v3 + 1) (qf (vaz .i32) (l2 ++ [r12.1])), .cells 0 [.int .i32 r12.1]]) .s ?_
   refine rgE tok [0, 4, 5] fun K hK => ?_
   simp only [go_sem, qb, qa, reduceCtorEq]
   apply hK
   exact ⟨_, _, _, qw (0 + k8), ⟨k8, l2 ++ [r12.1], IntKind.i64.wrap (x4 + r12.2.1), v3 + 1, rfl, rfl, rfl, h⟩, (.t [0] false)⟩
 rw [if_neg hc10] at h
 have t17 := eq_false hc10
 refine zJ ?_
 apply hZ1
 refine rg tok [2, 3] fun K hK => ?_
 simp only [go_sem, qb, qa, reduceCtorEq, t17]
 apply hK
 refine zi ?_
 obtain rfl := Option.some.inj h
 exact yy
theorem xP.ev (a0 : List UInt8) (r : List Int × Bool) (h : xP a0 = some r) (σ : Store) : ACalls qh 78 [.str a0] σ (fun r' σ' => r' = .tup [.ds true (qf (vaz .i32) r.1) (qc r.1) false, .bool r.2] ∧ σ' = σ) :=
 (xP.ok a0 r h).c σ
def xe (a0 : Int) : Bool :=
 ((((((decide (97 ≤ a0)) && (decide (a0 ≤ 122))) || ((decide (65 ≤ a0)) && (decide (a0 ≤ 90)))) || (decide (a0 = 95))) || ((((decide (192 ≤ a0)) && (decide (a0 ≤ 591))) && (!(decide (a0 = 215)))) && (!(decide (a0 = 247))))) || (((decide (913 ≤ a0)) && (decide (a0 ≤ 969))) && (!(decide (a0 = 930)))))
theorem xe.ok (a0 : Int) (r : Bool) (h : xe a0 = r) : ACalls qh 79 [.int .i32 a0] [] (fun r' _ => r' = .bool r) := by
 refine zm (rs := [.tmp 2]) tok Tryz.func79 rfl Tryz.ntmps79 rfl Tryz.call79 (by simp) ?_
 refine zq [(0, .int .i32 a0)] ⟨rfl, trivial⟩ ?_
 unfold xe at h
 refine rg tok [0] fun K hK => ?_
 simp only [go_sem, qb, reduceCtorEq]
 apply hK
 refine rc [2] fun K hK => ?_
 refine za tok 3 ?_
 simp only [go_sem, qb, qa, reduceCtorEq]
 refine zn 3 (fun L τ => L = [(0, .int .i32 a0), (8, .bool ((decide (97 ≤ a0)) && (decide (a0 ≤ 122))))] ∧ τ = ([] : Store)) ?_ ?_
 · refine yH 5 rfl (fun hg5 => ?_) (fun hg5 => ?_)
   · have t1 := eq_true hg5
     refine za tok 3 ?_
     simp only [go_sem, qb, qa, reduceCtorEq]
     refine zb ⟨rfl, _, _, ⟨rfl, rfl⟩, .p t1⟩
   have t2 := eq_false hg5
   refine za tok 3 ?_
   simp only [go_sem, qb, qa, reduceCtorEq]
   refine zb ⟨rfl, _, _, ⟨rfl, rfl⟩, .p t2⟩
 rintro _ _ ⟨rfl, rfl⟩
 refine za tok 1 ?_
 simp only [go_sem, qb, reduceCtorEq]
 refine zn 7 (fun L τ => L = [(0, .int .i32 a0), (16, .bool (((decide (97 ≤ a0)) && (decide (a0 ≤ 122))) || ((decide (65 ≤ a0)) && (decide (a0 ≤ 90)))))] ∧ τ = ([] : Store)) ?_ ?_
 · refine zQ (b := ((decide (97 ≤ a0)) && (decide (a0 ≤ 122)))) 9 rfl (fun hg9 => ?_) (fun hg9 => ?_)
   · refine za tok 7 ?_
     simp only [go_sem, qb, qa, reduceCtorEq]
     refine zb ⟨rfl, _, _, ⟨rfl, rfl⟩, .b hg9⟩
   refine za tok 3 ?_
   simp only [go_sem, qb, qa, reduceCtorEq]
   refine zn 3 (fun L τ => L = [(0, .int .i32 a0), (9, .bool false), (15, .bool ((decide (65 ≤ a0)) && (decide (a0 ≤ 90))))] ∧ τ = ([] : Store)) ?_ ?_
   · refine yH 12 rfl (fun hg12 => ?_) (fun hg12 => ?_)
     · have t3 := eq_true hg12
       refine za tok 3 ?_
       simp only [go_sem, qb, qa, reduceCtorEq]
       refine zb ⟨rfl, _, _, ⟨rfl, rfl⟩, .p t3⟩
     have t4 := eq_false hg12
     refine za tok 3 ?_
     simp only [go_sem, qb, qa, reduceCtorEq]
     refine zb ⟨rfl, _, _, ⟨rfl, rfl⟩, .p t4⟩
   rintro _ _ ⟨rfl, rfl⟩
   refine za tok 1 ?_
   simp only [go_sem, qb, qa, reduceCtorEq]
   refine zb ⟨rfl, _, _, ⟨rfl, rfl⟩, .b hg9⟩
 rintro _ _ ⟨rfl, rfl⟩
 refine za tok 1 ?_
 simp only [go_sem, qb, reduceCtorEq]
 refine zn 3 (fun L τ => L = [(0, .int .i32 a0), (20, .bool ((((decide (97 ≤ a0)) && (decide (a0 ≤ 122))) || ((decide (65 ≤ a0)) && (decide (a0 ≤ 90)))) || (decide (a0 = 95))))] ∧ τ = ([] : Store)) ?_ ?_
 · refine zQ (b := (((decide (97 ≤ a0)) && (decide (a0 ≤ 122))) || ((decide (65 ≤ a0)) && (decide (a0 ≤ 90))))) 17 rfl (fun hg17 => ?_) (fun hg17 => ?_)
   · refine za tok 3 ?_
     simp only [go_sem, qb, qa, reduceCtorEq]
     refine zb ⟨rfl, _, _, ⟨rfl, rfl⟩, .b hg17⟩
   refine za tok 3 ?_
   simp only [go_sem, qb, qa, reduceCtorEq]
   refine zb ⟨rfl, _, _, ⟨rfl, rfl⟩, .b hg17⟩
 rintro _ _ ⟨rfl, rfl⟩
 refine za tok 1 ?_
 simp only [go_sem, qb, reduceCtorEq]
 refine zn 15 (fun L τ => L = [(0, .int .i32 a0), (36, .bool (((((decide (97 ≤ a0)) && (decide (a0 ≤ 122))) || ((decide (65 ≤ a0)) && (decide (a0 ≤ 90)))) || (decide (a0 = 95))) || ((((decide (192 ≤ a0)) && (decide (a0 ≤ 591))) && (!(decide (a0 = 215)))) && (!(decide (a0 = 247))))))] ∧ τ = ([] : Store)) ?_ ?_
 · refine zQ (b := ((((decide (97 ≤ a0)) && (decide (a0 ≤ 122))) || ((decide (65 ≤ a0)) && (decide (a0 ≤ 90)))) || (decide (a0 = 95)))) 21 rfl (fun hg21 => ?_) (fun hg21 => ?_)
   · refine za tok 10 ?_
     simp only [go_sem, qb, qa, reduceCtorEq]
     refine za tok 5 ?_
     simp only [go_sem, qb, qa, reduceCtorEq]
     refine zb ⟨rfl, _, _, ⟨rfl, rfl⟩, .b hg21⟩
   refine za tok 3 ?_
   simp only [go_sem, qb, qa, reduceCtorEq]
   refine zn 3 (fun L τ => L = [(0, .int .i32 a0), (21, .bool false), (27, .bool ((decide (192 ≤ a0)) && (decide (a0 ≤ 591))))] ∧ τ = ([] : Store)) ?_ ?_
   · refine yH 24 rfl (fun hg24 => ?_) (fun hg24 => ?_)
     · have t5 := eq_true hg24
       refine za tok 3 ?_
       simp only [go_sem, qb, qa, reduceCtorEq]
       refine zb ⟨rfl, _, _, ⟨rfl, rfl⟩, .p t5⟩
     have t6 := eq_false hg24
     refine za tok 3 ?_
     simp only [go_sem, qb, qa, reduceCtorEq]
     refine zb ⟨rfl, _, _, ⟨rfl, rfl⟩, .p t6⟩
   rintro _ _ ⟨rfl, rfl⟩
   refine za tok 1 ?_
   simp only [go_sem, qb, qa, reduceCtorEq]
   refine zn 3 (fun L τ => L = [(0, .int .i32 a0), (21, .bool false), (31, .bool (((decide (192 ≤ a0)) && (decide (a0 ≤ 591))) && (!(decide (a0 = 215)))))] ∧ τ = ([] : Store)) ?_ ?_
   · refine zQ (b := ((decide (192 ≤ a0)) && (decide (a0 ≤ 591)))) 28 rfl (fun hg28 => ?_) (fun hg28 => ?_)
     · refine za tok 3 ?_
       simp only [go_sem, qb, qa, reduceCtorEq]
       refine zb ⟨rfl, _, _, ⟨rfl, rfl⟩, .b hg28⟩
     refine za tok 3 ?_
     simp only [go_sem, qb, qa, reduceCtorEq]
     refine zb ⟨rfl, _, _, ⟨rfl, rfl⟩, .b hg28⟩
   rintro _ _ ⟨rfl, rfl⟩
   refine za tok 1 ?_
   simp only [go_sem, qb, qa, reduceCtorEq]
   refine zn 3 (fun L τ => L = [(0, .int .i32 a0), (21, .bool false), (35, .bool ((((decide (192 ≤ a0)) && (decide (a0 ≤ 591))) && (!(decide (a0 = 215)))) && (!(decide (a0 = 247)))))] ∧ τ = ([] : Store)) ?_ ?_
   · refine zQ (b := (((decide (192 ≤ a0)) && (decide (a0 ≤ 591))) && (!(decide (a0 = 215))))) 32 rfl (fun hg32 => ?_) (fun hg32 => ?_)
     · refine za tok 3 ?_
       simp only [go_sem, qb, qa, reduceCtorEq]
       refine zb ⟨rfl, _, _, ⟨rfl, rfl⟩, .b hg32⟩
     refine za tok 3 ?_
     simp only [go_sem, qb, qa, reduceCtorEq]
     refine zb ⟨rfl, _, _, ⟨rfl, rfl⟩, .b hg32⟩
   rintro _ _ ⟨rfl, rfl⟩
   refine za tok 1 ?_
   simp only [go_sem, qb, qa, reduceCtorEq]
   refine zb ⟨rfl, _, _, ⟨rfl, rfl⟩, .b hg21⟩
 rintro _ _ ⟨rfl, rfl⟩
 refine za tok 1 ?_
 simp only [go_sem, qb, reduceCtorEq]
 refine zn 11 (fun L τ => L = [(48, .bool ((((((decide (97 ≤ a0)) && (decide (a0 ≤ 122))) || ((decide (65 ≤ a0)) && (decide (a0 ≤ 90)))) || (decide (a0 = 95))) || ((((decide (192 ≤ a0)) && (decide (a0 ≤ 591))) && (!(decide (a0 = 215)))) && (!(decide (a0 = 247))))) || (((decide (913 ≤ a0)) && (decide (a0 ≤ 969))) && (!(decide (a0 = 930))))))] ∧ τ = ([] : Store)) ?_ ?_
 · refine zQ (b := (((((decide (97 ≤ a0)) && (decide (a0 ≤ 122))) || ((decide (65 ≤ a0)) && (decide (a0 ≤ 90)))) || (decide (a0 = 95))) || ((((decide (192 ≤ a0)) && (decide (a0 ≤ 591))) && (!(decide (a0 = 215)))) && (!(decide (a0 = 247)))))) 37 rfl (fun hg37 => ?_) (fun hg37 => ?_)
   · refine za tok 10 ?_
     simp only [go_sem, qb, qa, reduceCtorEq]
     refine za tok 1 ?_
     simp only [go_sem, qb, qa, reduceCtorEq]
     refine zb ⟨rfl, _, _, ⟨rfl, rfl⟩, .b hg37⟩
   refine za tok 3 ?_
   simp only [go_sem, qb, qa, reduceCtorEq]
   refine zn 3 (fun L τ => L = [(0, .int .i32 a0), (37, .bool false), (43, .bool ((decide (913 ≤ a0)) && (decide (a0 ≤ 969))))] ∧ τ = ([] : Store)) ?_ ?_
   · refine yH 40 rfl (fun hg40 => ?_) (fun hg40 => ?_)
     · have t7 := eq_true hg40
       refine za tok 3 ?_
       simp only [go_sem, qb, qa, reduceCtorEq]
       refine zb ⟨rfl, _, _, ⟨rfl, rfl⟩, .p t7⟩
     have t8 := eq_false hg40
     refine za tok 3 ?_
     simp only [go_sem, qb, qa, reduceCtorEq]
     refine zb ⟨rfl, _, _, ⟨rfl, rfl⟩, .p t8⟩
   rintro _ _ ⟨rfl, rfl⟩
   refine za tok 1 ?_
   simp only [go_sem, qb, qa, reduceCtorEq]
   refine zn 3 (fun L τ => L = [(37, .bool false), (47, .bool (((decide (913 ≤ a0)) && (decide (a0 ≤ 969))) && (!(decide (a0 = 930)))))] ∧ τ = ([] : Store)) ?_ ?_
   · refine zQ (b := ((decide (913 ≤ a0)) && (decide (a0 ≤ 969)))) 44 rfl (fun hg44 => ?_) (fun hg44 => ?_)
     · refine za tok 3 ?_
       simp only [go_sem, qb, qa, reduceCtorEq]
       refine zb ⟨rfl, _, _, ⟨rfl, rfl⟩, .b hg44⟩
     refine za tok 3 ?_
     simp only [go_sem, qb, qa, reduceCtorEq]
     refine zb ⟨rfl, _, _, ⟨rfl, rfl⟩, .b hg44⟩
   rintro _ _ ⟨rfl, rfl⟩
   refine za tok 1 ?_
   simp only [go_sem, qb, qa]
   refine zb ⟨rfl, _, _, ⟨rfl, rfl⟩, .b hg37⟩
 rintro _ _ ⟨rfl, rfl⟩
 refine za tok 1 ?_
 simp only [go_sem, qb]
 refine zb ?_
 simp only [zd, upd, qa, reduceIte, zk, zo]
 apply hK
 refine zi ?_
 obtain rfl := h
 exact yy
theorem xe.ev (a0 : Int) (r : Bool) (h : xe a0 = r) (σ : Store) : ACalls qh 79 [.int .i32 a0] σ (fun r' σ' => r' = .bool r ∧ σ' = σ) :=
 (xe.ok a0 r h).c σ
def yZ.j3 (x2 : Bool) : Bool :=
 (if x2 = true then true else false)
def yZ (a0 : List UInt8) : Bool :=
 (if a0 = [115, 99, 104, 101, 109, 97] then (yZ.j3 (decide (a0 = [115, 99, 104, 101, 109, 97]))) else (if a0 = [109, 101, 115, 115, 97, 103, 101] then (yZ.j3 (decide (a0 = [109, 101, 115, 115, 97, 103, 101]))) else (if a0 = [101, 110, 117, 109] then (yZ.j3 (decide (a0 = [101, 110, 117, 109]))) else (if a0 = [99, 97, 108, 108] then (yZ.j3 (decide (a0 = [99, 97, 108, 108]))) else (if a0 = [114, 101, 116, 117, 114, 110, 115] then (yZ.j3 (decide (a0 = [114, 101, 116, 117, 114, 110, 115]))) else (if a0 = [114, 101, 115, 101, 114, 118, 101, 100] then (yZ.j3 (decide (a0 = [114, 101, 115, 101, 114, 118, 101, 100]))) else (if a0 = [111, 112, 116, 105, 111, 110, 97, 108] then (yZ.j3 (decide (a0 = [111, 112, 116, 105, 111, 110, 97, 108]))) else (if a0 = [114, 101, 112, 101, 97, 116, 101, 100] then (yZ.j3 (decide (a0 = [114, 101, 112, 101, 97, 116, 101, 100]))) else (if a0 = [105, 110, 116, 51, 50] then (yZ.j3 (decide (a0 = [105, 110, 116, 51, 50]))) else (if a0 = [105, 110, 116, 54, 52] then (yZ.j3 (decide (a0 = [105, 110, 116, 54, 52]))) else (if a0 = [98, 111, 111, 108] then (yZ.j3 (decide (a0 = [98, 111, 111, 108]))) else (if a0 = [116, 101, 120, 116] then (yZ.j3 (decide (a0 = [116, 101, 120, 116]))) else (yZ.j3 (decide (a0 = [98, 121, 116, 101, 115])))))))))))))))
theorem yZ.ok (a0 : List UInt8) (r : Bool) (h : yZ a0 = r) : ACalls qh 80 [.str a0] [] (fun r' _ => r' = .bool r) := by
 refine zm (rs := [.tmp 2]) tok Tryz.func80 rfl Tryz.ntmps80 rfl Tryz.call80 (by simp) ?_
 refine zq [(0, .str a0)] ⟨rfl, trivial⟩ ?_
 unfold yZ at h
 refine rg tok [0] fun K hK => ?_
 simp only [go_sem, qb, reduceCtorEq]
 apply hK
 refine ze fun Z1 hZ1 => ?_
 refine rg tok [3] fun K hK => ?_
 simp only [go_sem, qb, reduceCtorEq]
 apply hK
 refine zj ?_
 refine xN (fun L τ => ∃ (x2 : Bool), L = [(4, .bool x2)] ∧ τ = ([] : Store) ∧ yZ.j3 x2 = r) ?_ ?_
 · refine rg tok [3, 4] fun K hK => ?_
   simp only [go_sem, qb, qa]
   apply hK
   refine zI rfl (fun hc5 => ?_) (fun hc5 => ?_)
   · rw [if_pos hc5] at h
     have t6 := eq_true hc5
     refine zf ?_
     exact ⟨_, _, ⟨decide (a0 = [115, 99, 104, 101, 109, 97]), rfl, rfl, h⟩, .s⟩
   rw [if_neg hc5] at h
   have t7 := eq_false hc5
   refine rg tok [3, 4] fun K hK => ?_
   simp only [go_sem, qb, qa, t7]
   apply hK
   refine zI rfl (fun hc8 => ?_) (fun hc8 => ?_)
   · rw [if_pos hc8] at h
     have t9 := eq_true hc8
     refine zf ?_
     exact ⟨_, _, ⟨decide (a0 = [109, 101, 115, 115, 97, 103, 101]), rfl, rfl, h⟩, .s⟩
   rw [if_neg hc8] at h
   have t10 := eq_false hc8
   refine rg tok [3, 4] fun K hK => ?_
   simp only [go_sem, qb, qa, t10]
   apply hK
   refine zI rfl (fun hc11 => ?_) (fun hc11 => ?_)
   · rw [if_pos hc11] at h
     have t12 := eq_true hc11
     refine zf ?_
     exact ⟨_, _, ⟨decide (a0 = [101, 110, 117, 109]), rfl, rfl, h⟩, .s⟩
   rw [if_neg hc11] at h
   have t13 := eq_false hc11
   refine rg tok [3, 4] fun K hK => ?_
   simp only [go_sem, qb, qa, t13]
   apply hK
   refine zI rfl (fun hc14 => ?_) (fun hc14 => ?_)
   · rw [if_pos hc14] at h
     have t15 := eq_true hc14
     refine zf ?_
     exact ⟨_, _, ⟨decide (a0 = [99, 97, 108, 108]), rfl, rfl, h⟩, .s⟩
   rw [if_neg hc14] at h
   have t16 := eq_false hc14
   refine rg tok [3, 4] fun K hK => ?_
   simp only [go_sem, qb, qa, t16]
   apply hK
   refine zI rfl (fun hc17 => ?_) (fun hc17 => ?_)
   · rw [if_pos hc17] at h
     have t18 := eq_true hc17
     refine zf ?_
     exact ⟨_, _, ⟨decide (a0 = [114, 101, 116, 117, 114, 110, 115]), rfl, rfl, h⟩, .s⟩
   rw [if_neg hc17] at h
   have t19 := eq_false hc17
   refine rg tok [3, 4] fun K hK => ?_
   simp only [go_sem, qb, qa, t19]
   apply hK
   refine zI rfl (fun hc20 => ?_) (fun hc20 => ?_)
   · rw [if_pos hc20] at h
     have t21 := eq_true hc20
     refine zf ?_
     exact ⟨_, _, ⟨decide (a0 = [114, 101, 115, 101, 114, 118, 101, 100]), rfl, rfl, h⟩, .s⟩
   rw [if_neg hc20] at h
   have t22 := eq_false hc20
   refine rg tok [3, 4] fun K hK => ?_
   simp only [go_sem, qb, qa, t22]
   apply hK
   refine zI rfl (fun hc23 => ?_) (fun hc23 => ?_)
   · rw [if_pos hc23] at h
     have t24 := eq_true hc23
     refine zf ?_
     exact ⟨_, _, ⟨decide (a0 = [111, 112, 116, 105, 111, 110, 97, 108]), rfl, rfl, h⟩, .s⟩
   rw [if_neg hc23] at h
   have t25 := eq_false hc23
   refine rg tok [3, 4] fun K hK => ?_
   simp only [go_sem, qb, qa, t25]
   apply hK
   refine zI rfl (fun hc26 => ?_) (fun hc26 => ?_)
   · rw [if_pos hc26] at h
     have t27 := eq_true hc26
     refine zf ?_
     exact ⟨_, _, ⟨decide (a0 = [114, 101, 112, 101, 97, 116, 101, 100]), rfl, rfl, h⟩, .s⟩
   rw [if_neg hc26] at h
   have t28 := eq_false hc26
   refine rg tok [3, 4] fun K hK => ?_
   simp only [go_sem, qb, qa, t28]
   apply hK
   refine zI rfl (fun hc29 => ?_) (fun hc29 => ?_)
   · rw [if_pos hc29] at h
     have t30 := eq_true hc29
     refine zf ?_
     exact ⟨_, _, ⟨decide (a0 = [105, 110, 116, 51, 50]), rfl, rfl, h⟩, .s⟩
   rw [if_neg hc29] at h
   have t31 := eq_false hc29
   refine rg tok [3, 4] fun K hK => ?_
   simp only [go_sem, qb, qa, t31]
   apply hK
   refine zI rfl (fun hc32 => ?_) (fun hc32 => ?_)
   · rw [if_pos hc32] at h
     have t33 := eq_true hc32
     refine zf ?_
     exact ⟨_, _, ⟨decide (a0 = [105, 110, 116, 54, 52]), rfl, rfl, h⟩, .s⟩
   rw [if_neg hc32] at h
   have t34 := eq_false hc32
   refine rg tok [3, 4] fun K hK => ?_
   simp only [go_sem, qb, qa, t34]
   apply hK
   refine zI rfl (fun hc35 => ?_) (fun hc35 => ?_)
   · rw [if_pos hc35] at h
     have t36 := eq_true hc35
     refine zf ?_
     exact ⟨_, _, ⟨decide (a0 = [98, 111, 111, 108]), rfl, rfl, h⟩, .s⟩
   rw [if_neg hc35] at h
   have t37 := eq_false hc35
   refine rg tok [3, 4] fun K hK => ?_
   simp only [go_sem, qb, qa, t37]
   apply hK
   refine zI rfl (fun hc38 => ?_) (fun hc38 => ?_)
   · rw [if_pos hc38] at h
     have t39 := eq_true hc38
     refine zf ?_
     exact ⟨_, _, ⟨decide (a0 = [116, 101, 120, 116]), rfl, rfl, h⟩, .s⟩
   rw [if_neg hc38] at h
   have t40 := eq_false hc38
   refine rgE tok [4] fun K hK => ?_
   simp only [go_sem, qb, qa, t40]
   apply hK
   exact ⟨_, _, ⟨decide (a0 = [98, 121, 116, 101, 115]), rfl, rfl, h⟩, .s⟩
 rintro _ _ ⟨x2, rfl, rfl, h⟩
 unfold yZ.j3 at h
 refine zt (b := x2) rfl (fun hc4 => ?_) (fun hc4 => ?_)
 · rw [if_pos hc4] at h
   refine rg tok [2] fun K hK => ?_
   simp only [go_sem, qb, qa]
   apply hK
   refine zi ?_
   obtain rfl := h
   exact yy
 rw [xK hc4] at h
 refine zf ?_
 apply hZ1
 refine rg tok [2] fun K hK => ?_
 simp only [go_sem, qb, qa]
 apply hK
 refine zi ?_
 obtain rfl := h
 exact yy
end
end Go.Proofs.YtaddlmlpeghonaaGreatDoor
