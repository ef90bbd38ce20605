import Derived.Test.YtaddlmlpeghonaaDoorLFBa
set_option maxRecDepth 4000
set_option maxHeartbeats 1000000
set_option linter.unusedSimpArgs false
set_option linter.unusedVariables false
set_option linter.constructorNameAsVariable false
namespace Go.Proofs.YtaddlmlpeghonaaDoor
open Nat (reduceLT reduceLeDiff reduceEqDiff reduceAdd reduceMul reduceSub)
open AM
mutual
def value_entries : Nat → GTree → Option Bool
  | 0, _ => none
  | k + 1, a0 => value_entries.body (value_entries k) (value_right k) a0
def value_right : Nat → GTree → Option Bool
  | 0, _ => none
  | k + 1, a0 => value_right.body (value_entries k) (value_right k) a0
end
theorem value_entries.all (k : Nat) : (∀ (a0 : GTree) (r : Bool), value_entries k a0 = some r → ACalls Tryd.prog 100 [.agg (cellsGTree a0)] [] (fun r' _ => r' = .bool r)) ∧ (∀ (a0 : GTree) (r : Bool), value_right k a0 = some r → ACalls Tryd.prog 72 [.agg (cellsGTree a0)] [] (fun r' _ => r' = .bool r)) := by
 induction k with
 | zero => exact ⟨(fun a0 r h => by simp only [value_entries] at h; cases h), (fun a0 r h => by simp only [value_right] at h; cases h)⟩
 | succ k ih => exact ⟨(fun a0 r h => value_entries.step _ _ ih.1 ih.2 a0 r (by simpa only [value_entries] using h)), (fun a0 r h => value_right.step _ _ ih.1 ih.2 a0 r (by simpa only [value_right] using h))⟩
theorem value_right.ev (k : Nat) (a0 : GTree) (r : Bool) (h : value_right k a0 = some r) (σ : Store) : ACalls Tryd.prog 72 [.agg (cellsGTree a0)] σ (fun r' σ' => r' = .bool r ∧ σ' = σ) :=
 ((value_entries.all k).2 a0 r h).c σ
def value_Check (a0 : GTree) : Option Bool :=
  (value_Depth a0).bind fun r1 => (if r1 ≤ 10 then (value_right rounds a0).bind fun r2 => some r2 else some false).bind fun c2 => some c2
theorem value_Check.ok (a0 : GTree) (r : Bool) (h : value_Check a0 = some r) : ACalls Tryd.prog 48 [.agg (cellsGTree a0)] [] (fun r' _ => r' = .bool r) := by
 refine acalls_pure (rs := [.tmp 2]) tok Tryd.func48 rfl Tryd.ntmps48 rfl Tryd.call48 (by simp) ?_
 refine awp_args [(0, .agg (cellsGTree a0))] ⟨rfl, trivial⟩ ?_
 unfold value_Check at h
 refine rg tok [1] fun K hK => ?_
 simp only [go_sem, reduceLT, reduceLeDiff, reduceEqDiff, reduceAdd, reduceMul, reduceSub, reduceIte, reduceCtorEq, cellsGTree, encGTree_eq]
 refine hK _ _ ?_
 clear hK K
 refine rc [2] fun K hK => ?_
 obtain ⟨r1, hr1, h⟩ := bind_some h
 refine opsRunN tok 1 ?_
 simp only [go_sem, reduceLT, reduceLeDiff, reduceEqDiff, reduceAdd, reduceMul, reduceSub, reduceIte, reduceCtorEq, cellsGTree, encGTree_eq]
 refine opsWp_callD rfl rfl rfl (value_Depth.ev a0 r1 hr1 _) ?_
 rintro _ _ ⟨rfl, rfl⟩
 refine opsRunN tok 2 ?_
 simp only [go_sem, reduceLT, reduceLeDiff, reduceEqDiff, reduceAdd, reduceMul, reduceSub, reduceIte, reduceCtorEq, evEq, cellsGTree, encGTree_eq]
 obtain ⟨c2, hc2, h⟩ := bind_some h
 refine ops_join 3 (fun L τ => L = ([(9, .bool c2)] : List (Nat × AV)) ∧ τ = ([.cells 0 [.int .i64 a0.fKind, .int .i64 a0.fN, .str a0.fS, .ds true (List.flatMap encGEntry a0.fEntries) (List.length a0.fEntries) false, .ds true (List.flatMap encGRaw a0.fRest) (List.length a0.fRest) false]] : Store)) ?_ ?_
 · refine ops_if 6 rfl (fun hg6 => ?_) (fun hg6 => ?_)
   · skip
     have t3 := eq_true hg6
     rw [if_pos hg6] at hc2
     obtain ⟨r4, hr4, hc2⟩ := bind_some hc2
     refine opsRunN tok 1 ?_
     simp only [go_sem, reduceLT, reduceLeDiff, reduceEqDiff, reduceAdd, reduceMul, reduceSub, reduceIte, reduceCtorEq, cellsGTree, encGTree_eq]
     refine opsWp_callD rfl rfl rfl (value_right.ev rounds a0 r4 hr4 _) ?_
     rintro _ _ ⟨rfl, rfl⟩
     refine opsRunN tok 1 ?_
     simp only [go_sem, reduceLT, reduceLeDiff, reduceEqDiff, reduceAdd, reduceMul, reduceSub, reduceIte, reduceCtorEq, cellsGTree, encGTree_eq]
     obtain rfl := Option.some.inj hc2
     refine opsWp_nil ⟨rfl, _, _, ⟨rfl, rfl⟩, .p t3⟩
   · skip
     have t5 := eq_false hg6
     rw [if_neg hg6] at hc2
     refine opsRunN tok 3 ?_
     simp only [go_sem, reduceLT, reduceLeDiff, reduceEqDiff, reduceAdd, reduceMul, reduceSub, reduceIte, reduceCtorEq, cellsGTree, encGTree_eq]
     obtain rfl := Option.some.inj hc2
     refine opsWp_nil ⟨rfl, _, _, ⟨rfl, rfl⟩, .p t5⟩
 rintro _ _ ⟨rfl, rfl⟩
 refine opsRunN tok 1 ?_
 simp only [go_sem, reduceLT, reduceLeDiff, reduceEqDiff, reduceAdd, reduceMul, reduceSub, reduceIte, reduceCtorEq, cellsGTree, encGTree_eq]
 refine opsWp_nil ?_
 simp only [thenQ_normal, keepS_cons, keepS_nil, updO, upd, reduceEqDiff, reduceIte, fs_cons, fs_nil]
 refine hK _ _ ?_
 clear hK K
 refine awp_ret ?_
 obtain rfl := Option.some.inj h
 exact retA
theorem value_Check.ev (a0 : GTree) (r : Bool) (h : value_Check a0 = some r) (σ : Store) : ACalls Tryd.prog 48 [.agg (cellsGTree a0)] σ (fun r' σ' => r' = .bool r ∧ σ' = σ) :=
 (value_Check.ok a0 r h).c σ
def value_Num (a0 : Int) : GValueValue :=
  (GValueValue.num a0)
theorem value_Num.ok (a0 : Int) (r : GValueValue) (h : value_Num a0 = r) : ACalls Tryd.prog 122 [.int .i64 a0] [] (fun r' _ => r' = .agg (encGValueValue r)) := by
 refine acalls_pure (rs := [.cell 2 127]) tok Tryd.func122 rfl Tryd.ntmps122 rfl Tryd.call122 (by simp) ?_
 refine awp_args [(0, .int .i64 a0)] ⟨rfl, trivial⟩ ?_
 unfold value_Num at h
 refine rg tok [0, 2] fun K hK => ?_
 simp only [go_sem, reduceLT, reduceLeDiff, reduceEqDiff, reduceAdd, reduceMul, reduceSub, reduceIte, reduceCtorEq]
 refine hK _ _ ?_
 clear hK K
 refine rg tok [2] fun K hK => ?_
 simp only [go_sem, reduceLT, reduceLeDiff, reduceEqDiff, reduceAdd, reduceMul, reduceSub, reduceIte, reduceCtorEq, encGValueValue]
 refine hK _ _ ?_
 clear hK K
 refine awp_ret ?_
 obtain rfl := h
 exact retA
theorem value_Num.ev (a0 : Int) (r : GValueValue) (h : value_Num a0 = r) (σ : Store) : ACalls Tryd.prog 122 [.int .i64 a0] σ (fun r' σ' => r' = .agg (encGValueValue r) ∧ σ' = σ) :=
 (value_Num.ok a0 r h).c σ
def value_Str (a0 : List UInt8) : GValueValue :=
  (GValueValue.str a0)
theorem value_Str.ok (a0 : List UInt8) (r : GValueValue) (h : value_Str a0 = r) : ACalls Tryd.prog 123 [.str a0] [] (fun r' _ => r' = .agg (encGValueValue r)) := by
 refine acalls_pure (rs := [.cell 2 127]) tok Tryd.func123 rfl Tryd.ntmps123 rfl Tryd.call123 (by simp) ?_
 refine awp_args [(0, .str a0)] ⟨rfl, trivial⟩ ?_
 unfold value_Str at h
 refine rg tok [0, 2] fun K hK => ?_
 simp only [go_sem, reduceLT, reduceLeDiff, reduceEqDiff, reduceAdd, reduceMul, reduceSub, reduceIte, reduceCtorEq]
 refine hK _ _ ?_
 clear hK K
 refine rg tok [2] fun K hK => ?_
 simp only [go_sem, reduceLT, reduceLeDiff, reduceEqDiff, reduceAdd, reduceMul, reduceSub, reduceIte, reduceCtorEq, encGValueValue]
 refine hK _ _ ?_
 clear hK K
 refine awp_ret ?_
 obtain rfl := h
 exact retA
theorem value_Str.ev (a0 : List UInt8) (r : GValueValue) (h : value_Str a0 = r) (σ : Store) : ACalls Tryd.prog 123 [.str a0] σ (fun r' σ' => r' = .agg (encGValueValue r) ∧ σ' = σ) :=
 (value_Str.ok a0 r h).c σ
def slices_Clone_Raw (a0 : List GRaw) : Option (List GRaw) := (room (List.length a0) 40).bind fun _ => some a0
theorem slices_Clone_Raw.ok (a0 r : List GRaw) (h : slices_Clone_Raw a0 = some r) : ACalls Tryd.prog 124 [.ds true (List.flatMap encGRaw a0) (List.length a0) false] [] (fun r' _ => r' = .ds true (List.flatMap encGRaw r) (List.length r) false) := by
 obtain ⟨_u, hu, h⟩ := bind_some h
 have gu := room_some hu
 obtain rfl := Option.some.inj h
 have f1 := fun nl tt σ => srcCells_enc E22.len a0 nl tt σ
 have f2 := enc_length E22.len a0
 have f3 := ones_all encGRaw a0
 have fin : ∀ σ id ver tt, Store.at σ id ver = some (List.flatMap encGRaw a0) → tell σ [] true 12 (.os true 4 id ver 0 (List.length a0) tt) = .ds true (List.flatMap encGRaw a0) (List.length a0) false := by
  intro σ id ver tt hs
  simp only [tell_os, idxOf_nil, hs, List.drop_zero, Nat.zero_add]
  rw [if_pos (by rw [f2]; exact Nat.le_refl _), ← f2, List.take_length, tellL_all]
 refine acalls_pure (rs := [.tmp 2]) tok Tryd.func124 rfl Tryd.ntmps124 rfl Tryd.call124 (by simp) ?_
 refine awp_args [(0, .ds true (List.flatMap encGRaw a0) (List.length a0) false)] ⟨rfl, trivial⟩ ?_
 refine rg tok [0] fun K hK => ?_
 simp only [go_sem, reduceLT, reduceLeDiff, reduceEqDiff, reduceAdd, reduceMul, reduceSub, reduceIte, reduceCtorEq]
 refine hK _ _ ?_
 clear hK K
 refine awp_seq_k fun Z1 hZ1 => ?_
 refine rc [0, 4] fun K hK => ?_
 refine opsRunN tok 1 ?_
 simp only [go_sem, reduceLT, reduceLeDiff, reduceEqDiff, reduceAdd, reduceMul, reduceSub, reduceIte, reduceCtorEq]
 refine opsWp_snil tok rfl rfl rfl rfl rfl rfl fun b hnil => ?_
 have hb : b = true → a0 = [] := fun hb => by
  have := hnil hb
  simp only [lenOfAV, go_sem, reduceLT, reduceLeDiff, reduceEqDiff, reduceAdd, reduceMul, reduceSub, reduceIte, reduceCtorEq] at this
  exact List.eq_nil_of_length_eq_zero this
 clear hnil
 refine opsWp_nil ?_
 simp only [thenQ_normal, keepS_cons, keepS_nil, updO, upd, reduceEqDiff, reduceIte, fs_cons, fs_nil]
 refine hK _ _ ?_
 clear hK K
 cases b
 · refine awp_cond_f rfl ?_
   refine awp_skip ?_
   refine hZ1 _ _ ?_
   refine rg tok [2] fun K hK => ?_
   by_cases h0 : List.length a0 = 0
   · obtain rfl := List.eq_nil_of_length_eq_zero h0
     simp only [go_sem, reduceLT, reduceLeDiff, reduceEqDiff, reduceAdd, reduceMul, reduceSub, reduceIte, reduceCtorEq, evBuildSlice, zeroRun, List.range_zero, Nat.zero_le, evAppend, evAppendTo, lenOfAV, srcCells, List.flatMap_nil, List.length_nil, Nat.zero_mul, List.all_nil, gt_iff_lt]
     refine hK _ _ ?_
     clear hK K
     refine awp_ret ?_
     simp only [retQ, resAll, resOne, resAV, exists_eq_left', go_sem, reduceLT, reduceLeDiff, reduceEqDiff, reduceAdd, reduceMul, reduceSub, reduceIte, reduceCtorEq]
     first | rfl | (simp only [go_sem, reduceLT, reduceLeDiff, reduceEqDiff, reduceAdd, reduceMul, reduceSub, reduceIte, reduceCtorEq, tell_os, idxOf_nil, List.map_nil] <;> rfl)
   · have h1 := eq_false h0
     simp only [go_sem, reduceLT, reduceLeDiff, reduceEqDiff, reduceAdd, reduceMul, reduceSub, reduceIte, reduceCtorEq, evBuildSlice, zeroRun, List.range_zero, Nat.zero_le, evAppend, evAppendTo, lenOfAV, f1, f3, h1, gu, srcCells_o, gt_iff_lt, List.map_nil, List.nil_append, Nat.zero_mul]
     refine hK _ _ ?_
     clear hK K
     refine awp_ret ?_
     simp only [retQ, resAll, resOne, resAV, exists_eq_left', go_sem, reduceLT, reduceLeDiff, reduceEqDiff, reduceAdd, reduceMul, reduceSub, reduceIte, reduceCtorEq]
     exact fin _ _ _ _ (by simp only [Store.at_hd, Store.at_tl, if_true])
 · obtain rfl := hb rfl
   refine awp_cond_t rfl ?_
   refine rg tok [2] fun K hK => ?_
   simp only [go_sem, reduceLT, reduceLeDiff, reduceEqDiff, reduceAdd, reduceMul, reduceSub, reduceIte, reduceCtorEq]
   refine hK _ _ ?_
   clear hK K
   refine awp_ret ?_
   simp only [retQ, resAll, resOne, resAV, exists_eq_left', go_sem, reduceLT, reduceLeDiff, reduceEqDiff, reduceAdd, reduceMul, reduceSub, reduceIte, reduceCtorEq]
   first | rfl | (simp only [go_sem, reduceLT, reduceLeDiff, reduceEqDiff, reduceAdd, reduceMul, reduceSub, reduceIte, reduceCtorEq, tell_ds, List.map_nil, Bool.or_true, Bool.not_true, Bool.and_false] <;> rfl)
theorem slices_Clone_Raw.own (a0 r : List GRaw) (h : slices_Clone_Raw a0 = some r) : ACalls Tryd.prog 124 [.ds true (List.flatMap encGRaw a0) (List.length a0) false] [] (fun r' σ' => r' = .os true 4 0 0 0 (List.length r) false ∧ σ' = [.cells 0 (List.flatMap encGRaw r)]) := by
 obtain ⟨_u, hu, h⟩ := bind_some h
 have gu := room_some hu
 obtain rfl := Option.some.inj h
 have f1 := fun nl tt σ => srcCells_enc E22.len a0 nl tt σ
 have f2 := enc_length E22.len a0
 have f3 := ones_all encGRaw a0
 refine acalls_ownN (rs := [.tmp 2]) tok Tryd.func124 rfl Tryd.ntmps124 rfl Tryd.call124 (by simp) ?_
 refine awp_args [(0, .ds true (List.flatMap encGRaw a0) (List.length a0) false)] ⟨rfl, trivial⟩ ?_
 refine rg tok [0] fun K hK => ?_
 simp only [go_sem, reduceLT, reduceLeDiff, reduceEqDiff, reduceAdd, reduceMul, reduceSub, reduceIte, reduceCtorEq]
 refine hK _ _ ?_
 clear hK K
 refine awp_seq_k fun Z1 hZ1 => ?_
 refine rc [0, 4] fun K hK => ?_
 refine opsRunN tok 1 ?_
 simp only [go_sem, reduceLT, reduceLeDiff, reduceEqDiff, reduceAdd, reduceMul, reduceSub, reduceIte, reduceCtorEq]
 refine opsWp_snil tok rfl rfl rfl rfl rfl rfl fun b hnil => ?_
 have hb : b = true → a0 = [] := fun hb => by
  have := hnil hb
  simp only [lenOfAV, go_sem, reduceLT, reduceLeDiff, reduceEqDiff, reduceAdd, reduceMul, reduceSub, reduceIte, reduceCtorEq] at this
  exact List.eq_nil_of_length_eq_zero this
 clear hnil
 refine opsWp_nil ?_
 simp only [thenQ_normal, keepS_cons, keepS_nil, updO, upd, reduceEqDiff, reduceIte, fs_cons, fs_nil]
 refine hK _ _ ?_
 clear hK K
 cases b
 · refine awp_cond_f rfl ?_
   refine awp_skip ?_
   refine hZ1 _ _ ?_
   refine rg tok [2] fun K hK => ?_
   by_cases h0 : List.length a0 = 0
   · obtain rfl := List.eq_nil_of_length_eq_zero h0
     simp only [go_sem, reduceLT, reduceLeDiff, reduceEqDiff, reduceAdd, reduceMul, reduceSub, reduceIte, reduceCtorEq, evBuildSlice, zeroRun, List.range_zero, Nat.zero_le, evAppend, evAppendTo, lenOfAV, srcCells, List.flatMap_nil, List.length_nil, Nat.zero_mul, List.all_nil, gt_iff_lt]
     refine hK _ _ ?_
     clear hK K
     refine awp_ret ?_
     simp only [retQ, resAll, resOne, resAV, exists_eq_left', go_sem, reduceLT, reduceLeDiff, reduceEqDiff, reduceAdd, reduceMul, reduceSub, reduceIte, reduceCtorEq]
     refine .inl ⟨0, true, by simp, ?_, ?_⟩
     · first | rfl | (simp only [go_sem, reduceLT, reduceLeDiff, reduceEqDiff, reduceAdd, reduceMul, reduceSub, reduceIte, reduceCtorEq, tell_os, idxOf_cons, if_true] <;> rfl)
     · first | rfl | (simp only [go_sem, reduceLT, reduceLeDiff, reduceEqDiff, reduceAdd, reduceMul, reduceSub, reduceIte, reduceCtorEq, tellS_cons, tellS_nil, tellO_cells, store_get0, store_getS, List.map_nil] <;> rfl)
   · have h1 := eq_false h0
     simp only [go_sem, reduceLT, reduceLeDiff, reduceEqDiff, reduceAdd, reduceMul, reduceSub, reduceIte, reduceCtorEq, evBuildSlice, zeroRun, List.range_zero, Nat.zero_le, evAppend, evAppendTo, lenOfAV, f1, f3, h1, gu, srcCells_o, gt_iff_lt, List.map_nil, List.nil_append, Nat.zero_mul]
     refine hK _ _ ?_
     clear hK K
     refine awp_ret ?_
     simp only [retQ, resAll, resOne, resAV, exists_eq_left', go_sem, reduceLT, reduceLeDiff, reduceEqDiff, reduceAdd, reduceMul, reduceSub, reduceIte, reduceCtorEq]
     refine .inl ⟨1, false, by simp, ?_, ?_⟩
     · first | rfl | (simp only [go_sem, reduceLT, reduceLeDiff, reduceEqDiff, reduceAdd, reduceMul, reduceSub, reduceIte, reduceCtorEq, tell_os, idxOf_cons, if_true] <;> rfl)
     · first | rfl | (simp only [go_sem, reduceLT, reduceLeDiff, reduceEqDiff, reduceAdd, reduceMul, reduceSub, reduceIte, reduceCtorEq, tellS_cons, tellS_nil, tellO_cells, store_get0, store_getS, tellL_all] <;> rfl)
 · obtain rfl := hb rfl
   refine awp_cond_t rfl ?_
   refine rg tok [2] fun K hK => ?_
   simp only [go_sem, reduceLT, reduceLeDiff, reduceEqDiff, reduceAdd, reduceMul, reduceSub, reduceIte, reduceCtorEq]
   refine hK _ _ ?_
   clear hK K
   refine awp_ret ?_
   simp only [retQ, resAll, resOne, resAV, exists_eq_left', go_sem, reduceLT, reduceLeDiff, reduceEqDiff, reduceAdd, reduceMul, reduceSub, reduceIte, reduceCtorEq]
   refine .inr ?_
   first | rfl | (simp only [go_sem, reduceLT, reduceLeDiff, reduceEqDiff, reduceAdd, reduceMul, reduceSub, reduceIte, reduceCtorEq, tell_ds, List.map_nil, Bool.or_true, Bool.or_false, Bool.not_false, Bool.and_true] <;> rfl)
theorem slices_Clone_Raw.ev (a0 r : List GRaw) (h : slices_Clone_Raw a0 = some r) (σ : Store) : ACalls Tryd.prog 124 [.ds true (List.flatMap encGRaw a0) (List.length a0) false] σ (fun r' σ' => r' = .ds true (List.flatMap encGRaw r) (List.length r) false ∧ σ' = σ) :=
 (slices_Clone_Raw.ok a0 r h).pureAt (by simp only [AV.canon, canonL, canon_all, canonIfcV, canonAnyV, canonGValueNode, Bool.and_self, Bool.and_true, Bool.true_and, Bool.not_false, Bool.true_or]) (by simp only [AV.canon, canonL, canon_all, canonIfcV, canonAnyV, canonGValueNode, Bool.and_self, Bool.and_true, Bool.true_and, Bool.not_false, Bool.true_or]) σ
def value_made.l35 (self_value_made : GTree → Option GValueValue) (l14 : List GValueEntry) (x16 : Int) (rec20 : List GValueEntry → Int → Option GValueValue) (y25 : GEntry) : List GTree → Int → List GValueValue → Option GValueValue
  | [], x31, l29 => (room (List.length l14 + 1) 32).bind fun _u37 => (rec20 (l14 ++ [(⟨y25.fTag, l29⟩ : GValueEntry)]) (IntKind.i64.wrap (x16 + 1)))
  | y35 :: q35, x31, l29 => (self_value_made y35).bind fun r43 => (room (List.length l29 + 1) 16).bind fun _u45 => ((value_made.l35 self_value_made l14 x16 rec20 y25 q35) (x31 + 1) (l29 ++ [r43]))
def value_made.l20 (self_value_made : GTree → Option GValueValue) (a0 : GTree) (r12 : List GRaw) : Nat → List GValueEntry → Int → Option GValueValue
  | 0, _, _ => none
  | k20 + 1, l14, x16 => (if x16 < (List.length a0.fEntries : Int) then (idxL a0.fEntries x16).bind fun y25 => (value_made.l35 self_value_made l14 x16 (value_made.l20 self_value_made a0 r12 k20) y25 y25.fTrees 0 ([] : List GValueValue)) else some (GValueValue.node l14 r12))
def value_made.l62 (self_value_made : GTree → Option GValueValue) (a0 : GTree) (r12 : List GRaw) (y52 : GEntry) : List GTree → Int → List GValueValue → Option GValueValue
  | [], x58, l56 => (value_made.l20 self_value_made a0 r12 rounds [(⟨y52.fTag, l56⟩ : GValueEntry)] (IntKind.i64.wrap (0 + 1)))
  | y62 :: q62, x58, l56 => (self_value_made y62).bind fun r68 => (room (List.length l56 + 1) 16).bind fun _u70 => ((value_made.l62 self_value_made a0 r12 y52 q62) (x58 + 1) (l56 ++ [r68]))
def value_made.body (self_value_made : GTree → Option GValueValue) (a0 : GTree) : Option GValueValue :=
  (if a0.fKind = 1 then bnd (value_Num a0.fN) fun r4 => some r4 else (if a0.fKind = 2 then bnd (value_Str a0.fS) fun r9 => some r9 else (slices_Clone_Raw a0.fRest).bind fun r12 => (if 0 < (List.length a0.fEntries : Int) then (idxL a0.fEntries 0).bind fun y52 => (value_made.l62 self_value_made a0 r12 y52 y52.fTrees 0 ([] : List GValueValue)) else some (GValueValue.node ([] : List GValueEntry) r12))))
theorem value_made.step (self_value_made : GTree → Option GValueValue) (ih_value_made : ∀ (a0 : GTree) (r : GValueValue), self_value_made a0 = some r → ACalls Tryd.prog 103 [.agg (cellsGTree a0)] [] (fun r' _ => r' = .agg (encGValueValue r))) (a0 : GTree) (r : GValueValue) (h : value_made.body self_value_made a0 = some r) : ACalls Tryd.prog 103 [.agg (cellsGTree a0)] [] (fun r' _ => r' = .agg (encGValueValue r)) := by
 have ev_value_made := fun a0 r h σ => (ih_value_made a0 r h).c σ
 refine acalls_pure (rs := [.cell 2 127]) tok Tryd.func103 rfl Tryd.ntmps103 rfl Tryd.call103 (by simp) ?_
 refine awp_args [(0, .agg (cellsGTree a0))] ⟨rfl, trivial⟩ ?_
 unfold value_made.body at h
 refine rg tok [1, 2] fun K hK => ?_
 simp only [go_sem, reduceLT, reduceLeDiff, reduceEqDiff, reduceAdd, reduceMul, reduceSub, reduceIte, reduceCtorEq, cellsGTree, encGTree_eq]
 refine hK _ _ ?_
 clear hK K
 refine awp_seq_k fun Z1 hZ1 => ?_
 refine rg tok [1, 2, 10] fun K hK => ?_
 simp only [go_sem, reduceLT, reduceLeDiff, reduceEqDiff, reduceAdd, reduceMul, reduceSub, reduceIte, reduceCtorEq]
 refine hK _ _ ?_
 clear hK K
 refine awp_block ?_
 refine rg tok [1, 2, 10, 11] fun K hK => ?_
 simp only [go_sem, reduceLT, reduceLeDiff, reduceEqDiff, reduceAdd, reduceMul, reduceSub, reduceIte, reduceCtorEq, evEq]
 refine hK _ _ ?_
 clear hK K
 refine awp_if rfl (fun hc2 => ?_) (fun hc2 => ?_)
 · skip
   rw [if_pos hc2] at h
   have t3 := eq_true hc2
   refine rc [2] fun K hK => ?_
   obtain ⟨r4, hr4, h⟩ := bnd_elim h
   refine opsRunN tok 2 ?_
   simp only [go_sem, reduceLT, reduceLeDiff, reduceEqDiff, reduceAdd, reduceMul, reduceSub, reduceIte, reduceCtorEq, t3]
   refine opsWp_callD rfl rfl rfl (value_Num.ev a0.fN r4 hr4 _) ?_
   rintro _ _ ⟨rfl, rfl⟩
   have f5 := oneIfcV r4
   unfold AV.one at f5
   refine opsRunN tok 1 ?_
   simp only [go_sem, reduceLT, reduceLeDiff, reduceEqDiff, reduceAdd, reduceMul, reduceSub, reduceIte, reduceCtorEq, encGValueValue, t3, f5]
   refine opsWp_nil ?_
   simp only [thenQ_normal, keepS_cons, keepS_nil, updO, upd, reduceEqDiff, reduceIte, fs_cons, fs_nil]
   refine hK _ _ ?_
   clear hK K
   refine awp_ret ?_
   obtain rfl := Option.some.inj h
   exact retA
 · skip
   rw [if_neg hc2] at h
   have t6 := eq_false hc2
   refine rg tok [1, 2, 16] fun K hK => ?_
   simp only [go_sem, reduceLT, reduceLeDiff, reduceEqDiff, reduceAdd, reduceMul, reduceSub, reduceIte, reduceCtorEq, evEq, t6]
   refine hK _ _ ?_
   clear hK K
   refine awp_if rfl (fun hc7 => ?_) (fun hc7 => ?_)
   · skip
     rw [if_pos hc7] at h
     have t8 := eq_true hc7
     refine rc [2] fun K hK => ?_
     obtain ⟨r9, hr9, h⟩ := bnd_elim h
     refine opsRunN tok 2 ?_
     simp only [go_sem, reduceLT, reduceLeDiff, reduceEqDiff, reduceAdd, reduceMul, reduceSub, reduceIte, reduceCtorEq, t6, t8]
     refine opsWp_callD rfl rfl rfl (value_Str.ev a0.fS r9 hr9 _) ?_
     rintro _ _ ⟨rfl, rfl⟩
     have f10 := oneIfcV r9
     unfold AV.one at f10
     refine opsRunN tok 1 ?_
     simp only [go_sem, reduceLT, reduceLeDiff, reduceEqDiff, reduceAdd, reduceMul, reduceSub, reduceIte, reduceCtorEq, encGValueValue, t6, t8, f10]
     refine opsWp_nil ?_
     simp only [thenQ_normal, keepS_cons, keepS_nil, updO, upd, reduceEqDiff, reduceIte, fs_cons, fs_nil]
     refine hK _ _ ?_
     clear hK K
     refine awp_ret ?_
     obtain rfl := Option.some.inj h
     exact retA
   · skip
     rw [if_neg hc7] at h
     have t11 := eq_false hc7
     refine awp_skip ?_
     refine hZ1 _ _ ?_
     refine rc [1, 2, 3] fun K hK => ?_
     obtain ⟨r12, hr12, h⟩ := bind_some h
     refine opsRunN tok 2 ?_
     simp only [go_sem, reduceLT, reduceLeDiff, reduceEqDiff, reduceAdd, reduceMul, reduceSub, reduceIte, reduceCtorEq, t6, t11]
     refine opsWp_callD rfl rfl rfl (slices_Clone_Raw.ev a0.fRest r12 hr12 _) ?_
     rintro _ _ ⟨rfl, rfl⟩
     refine opsRunN tok 3 ?_
     simp only [go_sem, reduceLT, reduceLeDiff, reduceEqDiff, reduceAdd, reduceMul, reduceSub, reduceIte, reduceCtorEq, encGValueNode, t6, t11]
     refine opsWp_nil ?_
     simp only [thenQ_normal, keepS_cons, keepS_nil, updO, upd, reduceEqDiff, reduceIte, fs_cons, fs_nil]
     refine hK _ _ ?_
     clear hK K
     refine awp_seq_k fun Z13 hZ13 => ?_
     refine rg tok [2, 3, 27, 28, 29] fun K hK => ?_
     simp only [go_sem, reduceLT, reduceLeDiff, reduceEqDiff, reduceAdd, reduceMul, reduceSub, reduceIte, reduceCtorEq, t6, t11]
     refine hK _ _ ?_
     clear hK K
     refine awp_block ?_
     refine awp_loopS1 (fun m L τ => ∃ (k20 : Nat) (l14 : List GValueEntry) (x16 : Int) (v15 : Nat), m = 0 + k20 ∧ L = ([(2, .op 0 0 0), (3, .op 1 0 0), (27, .ds true (List.flatMap encGEntry a0.fEntries) (List.length a0.fEntries) false), (28, .int .i64 (List.length a0.fEntries : Int)), (29, .int .i64 x16)] : List (Nat × AV)) ∧ τ = ([.cells 0 [.nilI], .cells 0 [.os true 2 2 v15 0 (List.length l14) false, .ds true (List.flatMap encGRaw r12) (List.length r12) false], .cells v15 (List.flatMap encGValueEntry l14)] : Store) ∧ value_made.l20 self_value_made a0 r12 k20 l14 x16 = some r) (rounds + 1) ?_ ?_
     · skip
       refine rg tok [2, 3, 27, 28, 29, 30] fun K hK => ?_
       simp only [go_sem, reduceLT, reduceLeDiff, reduceEqDiff, reduceAdd, reduceMul, reduceSub, reduceIte, reduceCtorEq, evEq, t6, t11]
       refine hK _ _ ?_
       clear hK K
       refine awp_seq_k fun Z48 hZ48 => ?_
       refine awp_if rfl (fun hc49 => ?_) (fun hc49 => ?_)
       · skip
         rw [if_pos hc49] at h
         have t50 := eq_true hc49
         refine awp_skip ?_
         refine hZ48 _ _ ?_
         refine awp_seq_k fun Z51 hZ51 => ?_
         refine awp_block ?_
         obtain ⟨y52, hy52, h⟩ := bind_some h
         have f53 := E40.idxS hy52
         have f54 := E40.loadS rfl rfl hy52
         refine rg tok [2, 3, 5, 27, 28, 29] fun K hK => ?_
         simp only [go_sem, reduceLT, reduceLeDiff, reduceEqDiff, reduceAdd, reduceMul, reduceSub, reduceIte, reduceCtorEq, cellsGEntry, encGEntry_eq, t6, t11, t50, f53, f54]
         refine hK _ _ ?_
         clear hK K
         refine rg tok [2, 3, 5, 6, 27, 28, 29] fun K hK => ?_
         simp only [go_sem, reduceLT, reduceLeDiff, reduceEqDiff, reduceAdd, reduceMul, reduceSub, reduceIte, reduceCtorEq, cellsGValueEntry, encGValueEntry_eq, t6, t11, t50]
         refine hK _ _ ?_
         clear hK K
         refine awp_virtInS 4 1 1 rfl (by simp) rfl (L := [(2, .op 1 0 0), (3, .op 2 0 0), (5, .op 3 0 0), (6, .op 4 0 0), (27, .ds true (List.flatMap encGEntry a0.fEntries) (List.length a0.fEntries) false), (28, .int .i64 (List.length a0.fEntries : Int)), (29, .int .i64 0)]) (τ := [.cells 0 [.int .i64 a0.fKind, .int .i64 a0.fN, .str a0.fS, .ds true (List.flatMap encGEntry a0.fEntries) (List.length a0.fEntries) false, .ds true (List.flatMap encGRaw a0.fRest) (List.length a0.fRest) false], .cells 0 [.nilI], .cells 0 [.ds true [] 0 true, .ds true (List.flatMap encGRaw r12) (List.length r12) false], .cells 0 [.int .i64 y52.fTag, .ds true (List.flatMap encGTree y52.fTrees) (List.length y52.fTrees) false], .cells 0 [.int .i64 y52.fTag, .os true 1 5 0 0 (List.length ([] : List GValueValue)) false], .cells 0 (List.flatMap encGValueValue ([] : List GValueValue))]) .s ?_
         refine awp_seq_k fun Z55 hZ55 => ?_
         refine rg tok [2, 3, 6, 27, 28, 29, 37, 38, 39] fun K hK => ?_
         simp only [go_sem, reduceLT, reduceLeDiff, reduceEqDiff, reduceAdd, reduceMul, reduceSub, reduceIte, reduceCtorEq, t6, t11, t50]
         refine hK _ _ ?_
         clear hK K
         refine awp_block ?_
         refine awp_deep 37 fun hb62 => ?_
         replace hb62 : List.length y52.fTrees ≤ 9223372036854775807 := hb62.1
         refine awp_loopS (fun m L τ => ∃ (p62 q62 : List GTree) (x58 : Int) (l56 : List GValueValue) (v57 : Nat), m = List.length q62 ∧ L = ([(2, .op 0 0 0), (3, .op 1 0 0), (6, .op 2 0 0), (27, .ds true (List.flatMap encGEntry a0.fEntries) (List.length a0.fEntries) false), (28, .int .i64 (List.length a0.fEntries : Int)), (29, .int .i64 0), (37, .ds true (List.flatMap encGTree y52.fTrees) (List.length y52.fTrees) false), (38, .int .i64 (List.length y52.fTrees : Int)), (39, .int .i64 x58)] : List (Nat × AV)) ∧ τ = ([.cells 0 [.nilI], .cells 0 [.ds true [] 0 true, .ds true (List.flatMap encGRaw r12) (List.length r12) false], .cells 0 [.int .i64 y52.fTag, .os true 1 3 v57 0 (List.length l56) false], .cells v57 (List.flatMap encGValueValue l56)] : Store) ∧ y52.fTrees = p62 ++ q62 ∧ x58 = (List.length p62 : Int) ∧ value_made.l62 self_value_made a0 r12 y52 q62 x58 l56 = some r) _ ⟨[], y52.fTrees, 0, ([] : List GValueValue), 0, rfl, rfl, rfl, rfl, rfl, h⟩ (.t [1, 2, 4, 5] false) ?_
         rintro m L τ ⟨p62, q62, x58, l56, v57, rfl, rfl, rfl, hE62, hi62, h⟩
         rcases q62 with _ | ⟨y62, q62⟩
         · have hz62 := zip_nil hE62 hi62
           simp only [value_made.l62] at h
           refine rg tok [2, 3, 6, 27, 28, 29, 37, 38, 39, 40] fun K hK => ?_
           simp only [go_sem, reduceLT, reduceLeDiff, reduceEqDiff, reduceAdd, reduceMul, reduceSub, reduceIte, reduceCtorEq, evEq, t6, t11, t50, hz62]
           refine hK _ _ ?_
           clear hK K
           refine awp_seq_k fun Z63 hZ63 => ?_
           refine awp_cond_f rfl ?_
           refine awp_exit ?_
           refine hZ55 _ _ ?_
           refine rdE [2, 3, 27, 28, 29] fun K hK => ?_
           refine DW.start (T := tab) [.any, .any, .any, .any, .own 1 [], .at [], .eff, .eff, .any, .any, .eff] [(1, [])] ?_
           refine DW.runN tok 8 ?_
           simp only [go_sem, reduceLT, reduceLeDiff, reduceEqDiff, reduceAdd, reduceMul, reduceSub, reduceIte, reduceCtorEq, evBuildSlice, zeroRun, List.range_succ, List.range_zero, Nat.zero_le, true_and, Nat.reduceMod, evAppend, evAppendTo, lenOfAV, cellsGValueEntry, encGValueEntry_eq, encGValueNode, t6, t11, t50, hz62, srcCells_o, List.all_nil, List.all_cons, AV.one, Bool.and_self, Bool.and_true, gt_iff_lt, setI_length, List.flatMap_append, List.flatMap_cons, List.flatMap_nil, List.append_nil, List.nil_append, List.length_append, List.length_cons, List.length_nil, Nat.zero_add, List.append_assoc, List.cons_append]
           refine DW.runN tok 3 ?_
           simp only [go_sem, reduceLT, reduceLeDiff, reduceEqDiff, reduceAdd, reduceMul, reduceSub, reduceIte, reduceCtorEq, cellsGValueEntry, encGValueEntry_eq, encGValueNode, t6, t11, t50, hz62, srcCells_o, List.all_nil, List.all_cons, AV.one, Bool.and_self, Bool.and_true, gt_iff_lt, setI_length, List.flatMap_append, List.flatMap_cons, List.flatMap_nil, List.append_nil, List.nil_append, List.length_append, List.length_cons, List.length_nil, Nat.zero_add, List.append_assoc, List.cons_append]
           refine DW.fin tok (by decide +kernel) rfl ?_
           simp only [thenQ_normal, keepS_cons, keepS_nil, updO, upd, reduceEqDiff, reduceIte, fs_cons, fs_nil]
           refine hK _ _ ?_
           clear hK K
           refine hZ51 _ _ ?_
           refine rgE tok [2, 3, 27, 28, 29] fun K hK => ?_
           simp only [go_sem, reduceLT, reduceLeDiff, reduceEqDiff, reduceAdd, reduceMul, reduceSub, reduceIte, reduceCtorEq, evEq, t6, t11, t50, hz62]
           refine hK _ _ ?_
           clear hK K
           exact ⟨_, _, _, (Nat.lt_succ_of_le (Nat.le_of_eq (Nat.zero_add rounds))), ⟨rounds, [(⟨y52.fTag, l56⟩ : GValueEntry)], IntKind.i64.wrap (0 + 1), 0, rfl, rfl, rfl, h⟩, (.t [0, 1, 5] false)⟩
         · obtain ⟨hz62, hw62, hx62, hE'62, hi'62⟩ := zip_cons hE62 hi62 hb62
           simp only [value_made.l62] at h
           refine rg tok [2, 3, 6, 27, 28, 29, 37, 38, 39, 40] fun K hK => ?_
           simp only [go_sem, reduceLT, reduceLeDiff, reduceEqDiff, reduceAdd, reduceMul, reduceSub, reduceIte, reduceCtorEq, evEq, t6, t11, t50, hz62, hw62]
           refine hK _ _ ?_
           clear hK K
           refine awp_seq_k fun Z64 hZ64 => ?_
           refine awp_cond_t rfl ?_
           refine awp_skip ?_
           refine hZ64 _ _ ?_
           refine awp_seq_k fun Z65 hZ65 => ?_
           refine awp_block ?_
           have f66 := E59.idxS hx62
           have f67 := E59.loadS rfl rfl hx62
           refine rg tok [2, 3, 6, 8, 27, 28, 29, 37, 38, 39] fun K hK => ?_
           simp only [go_sem, reduceLT, reduceLeDiff, reduceEqDiff, reduceAdd, reduceMul, reduceSub, reduceIte, reduceCtorEq, cellsGTree, encGTree_eq, t6, t11, t50, hz62, hw62, f66, f67]
           refine hK _ _ ?_
           clear hK K
           obtain ⟨r68, hr68, h⟩ := bind_some h
           have f69 := oneIfcV r68
           unfold AV.one at f69
           obtain ⟨_u70, hu70, h⟩ := bind_some h
           have gu70 := room_some hu70
           have f71 := (enc_length E155.len l56)
           refine rdE [2, 3, 6, 27, 28, 29, 37, 38, 39] fun K hK => ?_
           refine DW.start (T := tab) [.any, .own 2 [], .at [], .eff, .eff, .eff, .any, .eff] [(2, [])] ?_
           refine DW.runN tok 3 ?_
           simp only [go_sem, reduceLT, reduceLeDiff, reduceEqDiff, reduceAdd, reduceMul, reduceSub, reduceIte, reduceCtorEq, cellsGTree, cellsGValueEntry, encGTree_eq, encGValueEntry_eq, encGValueValue, t6, t11, t50, hz62, hw62, f69, gu70, f71, srcCells_o, List.all_nil, List.all_cons, AV.one, Bool.and_self, Bool.and_true, gt_iff_lt, setI_length, List.flatMap_append, List.flatMap_cons, List.flatMap_nil, List.append_nil, List.nil_append, List.length_append, List.length_cons, List.length_nil, Nat.zero_add, List.append_assoc, List.cons_append]
           refine DW.call rfl rfl rfl (ev_value_made y62 r68 hr68 _) ?_
           refine DW.runN tok 4 ?_
           simp only [go_sem, reduceLT, reduceLeDiff, reduceEqDiff, reduceAdd, reduceMul, reduceSub, reduceIte, reduceCtorEq, evBuildSlice, zeroRun, List.range_succ, List.range_zero, Nat.zero_le, true_and, Nat.reduceMod, evAppend, evAppendTo, lenOfAV, cellsGTree, cellsGValueEntry, encGTree_eq, encGValueEntry_eq, encGValueValue, t6, t11, t50, hz62, hw62, f69, gu70, f71, srcCells_o, List.all_nil, List.all_cons, AV.one, Bool.and_self, Bool.and_true, gt_iff_lt, setI_length, List.flatMap_append, List.flatMap_cons, List.flatMap_nil, List.append_nil, List.nil_append, List.length_append, List.length_cons, List.length_nil, Nat.zero_add, List.append_assoc, List.cons_append]
           refine DW.fin tok (by decide +kernel) rfl ?_
           simp only [thenQ_normal, keepS_cons, keepS_nil, updO, upd, reduceEqDiff, reduceIte, fs_cons, fs_nil]
           refine hK _ _ ?_
           clear hK K
           refine hZ65 _ _ ?_
           refine rgE tok [2, 3, 6, 27, 28, 29, 37, 38, 39] fun K hK => ?_
           simp only [go_sem, reduceLT, reduceLeDiff, reduceEqDiff, reduceAdd, reduceMul, reduceSub, reduceIte, reduceCtorEq, evEq, t6, t11, t50, hz62, hw62]
           refine hK _ _ ?_
           clear hK K
           exact ⟨_, _, _, Nat.lt_succ_self q62.length, ⟨p62 ++ [y62], q62, x58 + 1, l56 ++ [r68], v57 + 1, rfl, rfl, rfl, hE'62, hi'62, h⟩, (.t [0, 1, 2, 3] false)⟩
       · skip
         rw [if_neg hc49] at h
         have t72 := eq_false hc49
         refine awp_exit ?_
         refine hZ13 _ _ ?_
         refine rg tok [2] fun K hK => ?_
         simp only [go_sem, reduceLT, reduceLeDiff, reduceEqDiff, reduceAdd, reduceMul, reduceSub, reduceIte, reduceCtorEq, encGValueValue, t6, t11, t72]
         refine hK _ _ ?_
         clear hK K
         refine awp_ret ?_
         obtain rfl := Option.some.inj h
         exact retA
     · skip
       clear h
       rintro m L τ ⟨k20, l14, x16, v15, rfl, rfl, rfl, h⟩
       rcases k20 with _ | k20
       · cases h
       · simp only [value_made.l20] at h
         refine rg tok [2, 3, 27, 28, 29, 30] fun K hK => ?_
         simp only [go_sem, reduceLT, reduceLeDiff, reduceEqDiff, reduceAdd, reduceMul, reduceSub, reduceIte, reduceCtorEq, evEq, t6, t11]
         refine hK _ _ ?_
         clear hK K
         refine awp_seq_k fun Z21 hZ21 => ?_
         refine awp_if rfl (fun hc22 => ?_) (fun hc22 => ?_)
         · skip
           rw [if_pos hc22] at h
           have t23 := eq_true hc22
           refine awp_skip ?_
           refine hZ21 _ _ ?_
           refine awp_seq_k fun Z24 hZ24 => ?_
           refine awp_block ?_
           obtain ⟨y25, hy25, h⟩ := bind_some h
           have f26 := E40.idxS hy25
           have f27 := E40.loadS rfl rfl hy25
           refine rg tok [2, 3, 5, 27, 28, 29] fun K hK => ?_
           simp only [go_sem, reduceLT, reduceLeDiff, reduceEqDiff, reduceAdd, reduceMul, reduceSub, reduceIte, reduceCtorEq, cellsGEntry, encGEntry_eq, t6, t11, t23, f26, f27]
           refine hK _ _ ?_
           clear hK K
           refine rg tok [2, 3, 5, 6, 27, 28, 29] fun K hK => ?_
           simp only [go_sem, reduceLT, reduceLeDiff, reduceEqDiff, reduceAdd, reduceMul, reduceSub, reduceIte, reduceCtorEq, cellsGValueEntry, encGValueEntry_eq, t6, t11, t23]
           refine hK _ _ ?_
           clear hK K
           refine awp_virtInS 4 1 1 rfl (by simp) rfl (L := [(2, .op 0 0 0), (3, .op 1 0 0), (5, .op 3 0 0), (6, .op 4 0 0), (27, .ds true (List.flatMap encGEntry a0.fEntries) (List.length a0.fEntries) false), (28, .int .i64 (List.length a0.fEntries : Int)), (29, .int .i64 x16)]) (τ := [.cells 0 [.nilI], .cells 0 [.os true 2 2 v15 0 (List.length l14) false, .ds true (List.flatMap encGRaw r12) (List.length r12) false], .cells v15 (List.flatMap encGValueEntry l14), .cells 0 [.int .i64 y25.fTag, .ds true (List.flatMap encGTree y25.fTrees) (List.length y25.fTrees) false], .cells 0 [.int .i64 y25.fTag, .os true 1 5 0 0 (List.length ([] : List GValueValue)) false], .cells 0 (List.flatMap encGValueValue ([] : List GValueValue))]) .s ?_
           refine awp_seq_k fun Z28 hZ28 => ?_
           refine rg tok [2, 3, 6, 27, 28, 29, 37, 38, 39] fun K hK => ?_
           simp only [go_sem, reduceLT, reduceLeDiff, reduceEqDiff, reduceAdd, reduceMul, reduceSub, reduceIte, reduceCtorEq, t6, t11, t23]
           refine hK _ _ ?_
           clear hK K
           refine awp_block ?_
           refine awp_deep 37 fun hb35 => ?_
           replace hb35 : List.length y25.fTrees ≤ 9223372036854775807 := hb35.1
           refine awp_loopS (fun m L τ => ∃ (p35 q35 : List GTree) (x31 : Int) (l29 : List GValueValue) (v30 : Nat), m = List.length q35 ∧ L = ([(2, .op 0 0 0), (3, .op 1 0 0), (6, .op 3 0 0), (27, .ds true (List.flatMap encGEntry a0.fEntries) (List.length a0.fEntries) false), (28, .int .i64 (List.length a0.fEntries : Int)), (29, .int .i64 x16), (37, .ds true (List.flatMap encGTree y25.fTrees) (List.length y25.fTrees) false), (38, .int .i64 (List.length y25.fTrees : Int)), (39, .int .i64 x31)] : List (Nat × AV)) ∧ τ = ([.cells 0 [.nilI], .cells 0 [.os true 2 2 v15 0 (List.length l14) false, .ds true (List.flatMap encGRaw r12) (List.length r12) false], .cells v15 (List.flatMap encGValueEntry l14), .cells 0 [.int .i64 y25.fTag, .os true 1 4 v30 0 (List.length l29) false], .cells v30 (List.flatMap encGValueValue l29)] : Store) ∧ y25.fTrees = p35 ++ q35 ∧ x31 = (List.length p35 : Int) ∧ value_made.l35 self_value_made l14 x16 (value_made.l20 self_value_made a0 r12 k20) y25 q35 x31 l29 = some r) _ ⟨[], y25.fTrees, 0, ([] : List GValueValue), 0, rfl, rfl, rfl, rfl, rfl, h⟩ (.t [0, 1, 2, 4, 5] false) ?_
           rintro m L τ ⟨p35, q35, x31, l29, v30, rfl, rfl, rfl, hE35, hi35, h⟩
           rcases q35 with _ | ⟨y35, q35⟩
           · have hz35 := zip_nil hE35 hi35
             simp only [value_made.l35] at h
             refine rg tok [2, 3, 6, 27, 28, 29, 37, 38, 39, 40] fun K hK => ?_
             simp only [go_sem, reduceLT, reduceLeDiff, reduceEqDiff, reduceAdd, reduceMul, reduceSub, reduceIte, reduceCtorEq, evEq, t6, t11, t23, hz35]
             refine hK _ _ ?_
             clear hK K
             refine awp_seq_k fun Z36 hZ36 => ?_
             refine awp_cond_f rfl ?_
             refine awp_exit ?_
             refine hZ28 _ _ ?_
             obtain ⟨_u37, hu37, h⟩ := bind_some h
             have gu37 := room_some hu37
             have f38 := (enc_length E172.len l14)
             refine rdE [2, 3, 27, 28, 29] fun K hK => ?_
             refine DW.start (T := tab) [.any, .any, .any, .any, .own 1 [], .at [], .eff, .eff, .any, .any, .eff] [(1, [])] ?_
             refine DW.runN tok 8 ?_
             simp only [go_sem, reduceLT, reduceLeDiff, reduceEqDiff, reduceAdd, reduceMul, reduceSub, reduceIte, reduceCtorEq, evBuildSlice, zeroRun, List.range_succ, List.range_zero, Nat.zero_le, true_and, Nat.reduceMod, evAppend, evAppendTo, lenOfAV, cellsGValueEntry, encGValueEntry_eq, encGValueNode, t6, t11, t23, hz35, gu37, f38, srcCells_o, List.all_nil, List.all_cons, AV.one, Bool.and_self, Bool.and_true, gt_iff_lt, setI_length, List.flatMap_append, List.flatMap_cons, List.flatMap_nil, List.append_nil, List.nil_append, List.length_append, List.length_cons, List.length_nil, Nat.zero_add, List.append_assoc, List.cons_append]
             refine DW.runN tok 3 ?_
             simp only [go_sem, reduceLT, reduceLeDiff, reduceEqDiff, reduceAdd, reduceMul, reduceSub, reduceIte, reduceCtorEq, cellsGValueEntry, encGValueEntry_eq, encGValueNode, t6, t11, t23, hz35, gu37, f38, srcCells_o, List.all_nil, List.all_cons, AV.one, Bool.and_self, Bool.and_true, gt_iff_lt, setI_length, List.flatMap_append, List.flatMap_cons, List.flatMap_nil, List.append_nil, List.nil_append, List.length_append, List.length_cons, List.length_nil, Nat.zero_add, List.append_assoc, List.cons_append]
             refine DW.fin tok (by decide +kernel) rfl ?_
             simp only [thenQ_normal, keepS_cons, keepS_nil, updO, upd, reduceEqDiff, reduceIte, fs_cons, fs_nil]
             refine hK _ _ ?_
             clear hK K
             refine hZ24 _ _ ?_
             refine rgE tok [2, 3, 27, 28, 29] fun K hK => ?_
             simp only [go_sem, reduceLT, reduceLeDiff, reduceEqDiff, reduceAdd, reduceMul, reduceSub, reduceIte, reduceCtorEq, evEq, t6, t11, t23, hz35]
             refine hK _ _ ?_
             clear hK K
             exact ⟨_, _, _, Nat.lt_succ_self (0 + k20), ⟨k20, l14 ++ [(⟨y25.fTag, l29⟩ : GValueEntry)], IntKind.i64.wrap (x16 + 1), v15 + 1, rfl, rfl, rfl, h⟩, (.t [0, 1, 2] false)⟩
           · obtain ⟨hz35, hw35, hx35, hE'35, hi'35⟩ := zip_cons hE35 hi35 hb35
             simp only [value_made.l35] at h
             refine rg tok [2, 3, 6, 27, 28, 29, 37, 38, 39, 40] fun K hK => ?_
             simp only [go_sem, reduceLT, reduceLeDiff, reduceEqDiff, reduceAdd, reduceMul, reduceSub, reduceIte, reduceCtorEq, evEq, t6, t11, t23, hz35, hw35]
             refine hK _ _ ?_
             clear hK K
             refine awp_seq_k fun Z39 hZ39 => ?_
             refine awp_cond_t rfl ?_
             refine awp_skip ?_
             refine hZ39 _ _ ?_
             refine awp_seq_k fun Z40 hZ40 => ?_
             refine awp_block ?_
             have f41 := E59.idxS hx35
             have f42 := E59.loadS rfl rfl hx35
             refine rg tok [2, 3, 6, 8, 27, 28, 29, 37, 38, 39] fun K hK => ?_
             simp only [go_sem, reduceLT, reduceLeDiff, reduceEqDiff, reduceAdd, reduceMul, reduceSub, reduceIte, reduceCtorEq, cellsGTree, encGTree_eq, t6, t11, t23, hz35, hw35, f41, f42]
             refine hK _ _ ?_
             clear hK K
             obtain ⟨r43, hr43, h⟩ := bind_some h
             have f44 := oneIfcV r43
             unfold AV.one at f44
             obtain ⟨_u45, hu45, h⟩ := bind_some h
             have gu45 := room_some hu45
             have f46 := (enc_length E155.len l29)
             refine rdE [2, 3, 6, 27, 28, 29, 37, 38, 39] fun K hK => ?_
             refine DW.start (T := tab) [.any, .own 2 [], .at [], .eff, .eff, .eff, .any, .eff] [(2, [])] ?_
             refine DW.runN tok 3 ?_
             simp only [go_sem, reduceLT, reduceLeDiff, reduceEqDiff, reduceAdd, reduceMul, reduceSub, reduceIte, reduceCtorEq, cellsGTree, cellsGValueEntry, encGTree_eq, encGValueEntry_eq, encGValueValue, t6, t11, t23, hz35, hw35, f44, gu45, f46, srcCells_o, List.all_nil, List.all_cons, AV.one, Bool.and_self, Bool.and_true, gt_iff_lt, setI_length, List.flatMap_append, List.flatMap_cons, List.flatMap_nil, List.append_nil, List.nil_append, List.length_append, List.length_cons, List.length_nil, Nat.zero_add, List.append_assoc, List.cons_append]
             refine DW.call rfl rfl rfl (ev_value_made y35 r43 hr43 _) ?_
             refine DW.runN tok 4 ?_
             simp only [go_sem, reduceLT, reduceLeDiff, reduceEqDiff, reduceAdd, reduceMul, reduceSub, reduceIte, reduceCtorEq, evBuildSlice, zeroRun, List.range_succ, List.range_zero, Nat.zero_le, true_and, Nat.reduceMod, evAppend, evAppendTo, lenOfAV, cellsGTree, cellsGValueEntry, encGTree_eq, encGValueEntry_eq, encGValueValue, t6, t11, t23, hz35, hw35, f44, gu45, f46, srcCells_o, List.all_nil, List.all_cons, AV.one, Bool.and_self, Bool.and_true, gt_iff_lt, setI_length, List.flatMap_append, List.flatMap_cons, List.flatMap_nil, List.append_nil, List.nil_append, List.length_append, List.length_cons, List.length_nil, Nat.zero_add, List.append_assoc, List.cons_append]
             refine DW.fin tok (by decide +kernel) rfl ?_
             simp only [thenQ_normal, keepS_cons, keepS_nil, updO, upd, reduceEqDiff, reduceIte, fs_cons, fs_nil]
             refine hK _ _ ?_
             clear hK K
             refine hZ40 _ _ ?_
             refine rgE tok [2, 3, 6, 27, 28, 29, 37, 38, 39] fun K hK => ?_
             simp only [go_sem, reduceLT, reduceLeDiff, reduceEqDiff, reduceAdd, reduceMul, reduceSub, reduceIte, reduceCtorEq, evEq, t6, t11, t23, hz35, hw35]
             refine hK _ _ ?_
             clear hK K
             exact ⟨_, _, _, Nat.lt_succ_self q35.length, ⟨p35 ++ [y35], q35, x31 + 1, l29 ++ [r43], v30 + 1, rfl, rfl, rfl, hE'35, hi'35, h⟩, (.t [0, 1, 2, 3, 4] false)⟩
         · skip
           rw [if_neg hc22] at h
           have t47 := eq_false hc22
           refine awp_exit ?_
           refine hZ13 _ _ ?_
           refine rg tok [2] fun K hK => ?_
           simp only [go_sem, reduceLT, reduceLeDiff, reduceEqDiff, reduceAdd, reduceMul, reduceSub, reduceIte, reduceCtorEq, encGValueValue, t6, t11, t47]
           refine hK _ _ ?_
           clear hK K
           refine awp_ret ?_
           obtain rfl := Option.some.inj h
           exact retA
def value_made : Nat → GTree → Option GValueValue
  | 0, _ => none
  | k + 1, a0 => value_made.body (value_made k) a0
theorem value_made.all (k : Nat) : (∀ (a0 : GTree) (r : GValueValue), value_made k a0 = some r → ACalls Tryd.prog 103 [.agg (cellsGTree a0)] [] (fun r' _ => r' = .agg (encGValueValue r))) := by
 induction k with
 | zero => exact (fun a0 r h => by simp only [value_made] at h; cases h)
 | succ k ih => exact (fun a0 r h => value_made.step _ ih a0 r (by simpa only [value_made] using h))
theorem value_made.ev (k : Nat) (a0 : GTree) (r : GValueValue) (h : value_made k a0 = some r) (σ : Store) : ACalls Tryd.prog 103 [.agg (cellsGTree a0)] σ (fun r' σ' => r' = .agg (encGValueValue r) ∧ σ' = σ) :=
 ((value_made.all k) a0 r h).c σ
def value_Of (a0 : GTree) : Option (GValueValue × Bool) :=
  (value_Check a0).bind fun r2 => (if (!r2) = true then some (GValueValue.nil, false) else (value_made rounds a0).bind fun r4 => some (r4, true))
theorem value_Of.ok (a0 : GTree) (r : GValueValue × Bool) (h : value_Of a0 = some r) : ACalls Tryd.prog 74 [.agg (cellsGTree a0)] [] (fun r' _ => r' = .tup [.agg (encGValueValue r.1), .bool r.2]) := by
 refine acalls_pure (rs := [.cell 2 127, .tmp 3]) tok Tryd.func74 rfl Tryd.ntmps74 rfl Tryd.call74 (by simp) ?_
 refine awp_args [(0, .agg (cellsGTree a0))] ⟨rfl, trivial⟩ ?_
 unfold value_Of at h
 refine rg tok [1, 2] fun K hK => ?_
 simp only [go_sem, reduceLT, reduceLeDiff, reduceEqDiff, reduceAdd, reduceMul, reduceSub, reduceIte, reduceCtorEq, cellsGTree, encGTree_eq]
 refine hK _ _ ?_
 clear hK K
 refine awp_seq_k fun Z1 hZ1 => ?_
 refine rc [1, 2, 6] fun K hK => ?_
 obtain ⟨r2, hr2, h⟩ := bind_some h
 refine opsRunN tok 1 ?_
 simp only [go_sem, reduceLT, reduceLeDiff, reduceEqDiff, reduceAdd, reduceMul, reduceSub, reduceIte, reduceCtorEq, cellsGTree, encGTree_eq]
 refine opsWp_callD rfl rfl rfl (value_Check.ev a0 r2 hr2 _) ?_
 rintro _ _ ⟨rfl, rfl⟩
 refine opsRunN tok 1 ?_
 simp only [go_sem, reduceLT, reduceLeDiff, reduceEqDiff, reduceAdd, reduceMul, reduceSub, reduceIte, reduceCtorEq, cellsGTree, encGTree_eq]
 refine opsWp_nil ?_
 simp only [thenQ_normal, keepS_cons, keepS_nil, updO, upd, reduceEqDiff, reduceIte, fs_cons, fs_nil]
 refine hK _ _ ?_
 clear hK K
 refine awp_cond (b := (!r2)) rfl (fun hc3 => ?_) (fun hc3 => ?_)
 · skip
   rw [if_pos hc3] at h
   refine rg tok [2, 3] fun K hK => ?_
   simp only [go_sem, reduceLT, reduceLeDiff, reduceEqDiff, reduceAdd, reduceMul, reduceSub, reduceIte, reduceCtorEq, encGValueValue]
   refine hK _ _ ?_
   clear hK K
   refine awp_ret ?_
   obtain rfl := Option.some.inj h
   exact retA
 · skip
   rw [if_F hc3] at h
   refine awp_skip ?_
   refine hZ1 _ _ ?_
   refine rc [2, 3] fun K hK => ?_
   obtain ⟨r4, hr4, h⟩ := bind_some h
   refine opsRunN tok 1 ?_
   simp only [go_sem, reduceLT, reduceLeDiff, reduceEqDiff, reduceAdd, reduceMul, reduceSub, reduceIte, reduceCtorEq, cellsGTree, encGTree_eq]
   refine opsWp_callD rfl rfl rfl (value_made.ev rounds a0 r4 hr4 _) ?_
   rintro _ _ ⟨rfl, rfl⟩
   have f5 := oneIfcV r4
   unfold AV.one at f5
   refine opsRunN tok 2 ?_
   simp only [go_sem, reduceLT, reduceLeDiff, reduceEqDiff, reduceAdd, reduceMul, reduceSub, reduceIte, reduceCtorEq, cellsGTree, encGTree_eq, encGValueValue, f5]
   refine opsWp_nil ?_
   simp only [thenQ_normal, keepS_cons, keepS_nil, updO, upd, reduceEqDiff, reduceIte, fs_cons, fs_nil]
   refine hK _ _ ?_
   clear hK K
   refine awp_ret ?_
   obtain rfl := Option.some.inj h
   exact retA
theorem value_Of.ev (a0 : GTree) (r : GValueValue × Bool) (h : value_Of a0 = some r) (σ : Store) : ACalls Tryd.prog 74 [.agg (cellsGTree a0)] σ (fun r' σ' => r' = .tup [.agg (encGValueValue r.1), .bool r.2] ∧ σ' = σ) :=
 (value_Of.ok a0 r h).c σ
def value_Value_MustNode (a0 : GValueValue) : Option GValueNode :=
  (match a0 with | .nil => none | .num n2 => none | .str s2 => none | .node e2 r2 => some (⟨e2, r2⟩ : GValueNode))
theorem value_Value_MustNode.ok (a0 : GValueValue) (r : GValueNode) (h : value_Value_MustNode a0 = some r) : ACalls Tryd.prog 76 [.agg (encGValueValue a0)] [] (fun r' _ => r' = .dp (encGValueNode r) 0) := by
 refine acalls_pure (rs := [.tmp 2]) tok Tryd.func76 rfl Tryd.ntmps76 rfl Tryd.call76 (by simp) ?_
 refine awp_args [(0, .agg (encGValueValue a0))] ⟨rfl, trivial⟩ ?_
 unfold value_Value_MustNode at h
 have f1 := oneIfcV a0
 unfold AV.one at f1
 refine rg tok [1] fun K hK => ?_
 simp only [go_sem, reduceLT, reduceLeDiff, reduceEqDiff, reduceAdd, reduceMul, reduceSub, reduceIte, reduceCtorEq, encGValueValue, f1]
 refine hK _ _ ?_
 clear hK K
 rcases a0 with _ | n2 | s2 | ⟨e2, r2⟩
 · skip
   dsimp only at h
   try simp only [ifcV_nil, anyV_nil, encGValueValue]
   cases h
 · skip
   dsimp only at h
   try simp only [ifcV_num, anyV_num, encGValueValue]
   cases h
 · skip
   dsimp only at h
   try simp only [ifcV_str, anyV_str, encGValueValue]
   cases h
 · skip
   dsimp only at h
   try simp only [ifcV_node, anyV_node, encGValueValue]
   refine rg tok [2] fun K hK => ?_
   simp only [go_sem, reduceLT, reduceLeDiff, reduceEqDiff, reduceAdd, reduceMul, reduceSub, reduceIte, reduceCtorEq, evAssert, assertIn, TypeDesc.isIface]
   refine hK _ _ ?_
   clear hK K
   refine awp_ret ?_
   obtain rfl := Option.some.inj h
   exact retA
theorem value_Value_MustNode.ev (a0 : GValueValue) (r : GValueNode) (h : value_Value_MustNode a0 = some r) (σ : Store) : ACalls Tryd.prog 76 [.agg (encGValueValue a0)] σ (fun r' σ' => r' = .dp (encGValueNode r) 0 ∧ σ' = σ) :=
 (value_Value_MustNode.ok a0 r h).c σ
def value_Node_Rest (a0 : GValueNode) : Option (List GRaw) :=
  (slices_Clone_Raw a0.frest).bind fun r1 => some r1
theorem value_Node_Rest.own (a0 : GValueNode) (r : List GRaw) (h : value_Node_Rest a0 = some r) : ACalls Tryd.prog 104 [.dp (encGValueNode a0) 0] [] (fun r' σ' => r' = .os true 4 0 0 0 (List.length r) false ∧ σ' = [.cells 0 (List.flatMap encGRaw r)]) := by
 refine ACalls.own0 (by simp only [push_cast]) ?_
 refine acalls_own (rs := [.tmp 2]) tok Tryd.func104 rfl Tryd.ntmps104 rfl Tryd.call104 (by simp) ?_
 refine awp_args [(0, .dp (encGValueNode a0) 0)] ⟨rfl, trivial⟩ ?_
 unfold value_Node_Rest at h
 refine rg tok [0] fun K hK => ?_
 simp only [go_sem, reduceLT, reduceLeDiff, reduceEqDiff, reduceAdd, reduceMul, reduceSub, reduceIte, reduceCtorEq]
 refine hK _ _ ?_
 clear hK K
 refine rc [2] fun K hK => ?_
 obtain ⟨r1, hr1, h⟩ := bind_some h
 refine opsRunN tok 4 ?_
 simp only [go_sem, reduceLT, reduceLeDiff, reduceEqDiff, reduceAdd, reduceMul, reduceSub, reduceIte, reduceCtorEq, encGValueNode, evLoad_dp]
 refine opsWp_callD rfl rfl rfl (@id (ACalls Tryd.prog 124 [.ds true (List.flatMap encGRaw a0.frest) (List.length a0.frest) false] [] (fun r' σ' => r' = .os true 4 0 0 0 (List.length r1) false ∧ σ' = [.cells 0 (List.flatMap encGRaw r1)])) ((slices_Clone_Raw.own a0.frest r1 hr1).ownAt0 (by simp only [push_cast]) (by simp only [push_cast]) _)) ?_
 rintro _ _ ⟨rfl, rfl⟩
 refine opsRunN tok 1 ?_
 simp only [go_sem, reduceLT, reduceLeDiff, reduceEqDiff, reduceAdd, reduceMul, reduceSub, reduceIte, reduceCtorEq, encGValueNode]
 refine opsWp_nil ?_
 simp only [thenQ_normal, keepS_cons, keepS_nil, updO, upd, reduceEqDiff, reduceIte, fs_cons, fs_nil]
 refine hK _ _ ?_
 clear hK K
 refine awp_ret ?_
 obtain rfl := Option.some.inj h
 simp only [retQ, resAll, resOne, resAV, exists_eq_left', go_sem, reduceLT, reduceLeDiff, reduceEqDiff, reduceAdd, reduceMul, reduceSub, reduceIte, reduceCtorEq, encGRaw]
 refine ⟨0, 0, by simp, ?_, ?_⟩
 · first | rfl | (simp only [go_sem, reduceLT, reduceLeDiff, reduceEqDiff, reduceAdd, reduceMul, reduceSub, reduceIte, reduceCtorEq, push_cast, if_true, List.drop_zero, Nat.zero_add, List.map_cons, List.map_nil, List.map_append, Bool.or_true, Bool.or_false, Bool.and_true, Bool.and_false, Bool.not_true, Bool.not_false, tellL_all, encGRaw] <;> rfl)
 · first | rfl | (simp only [go_sem, reduceLT, reduceLeDiff, reduceEqDiff, reduceAdd, reduceMul, reduceSub, reduceIte, reduceCtorEq, push_cast, if_true, List.drop_zero, Nat.zero_add, List.map_cons, List.map_nil, List.map_append, Bool.or_true, Bool.or_false, Bool.and_true, Bool.and_false, Bool.not_true, Bool.not_false, tellL_all, encGRaw] <;> rfl)
def value_Node_Tags.l8 : List GValueEntry → Int → List Int → Option (List Int)
  | [], x4, l2 => some l2
  | y8 :: q8, x4, l2 => (room (List.length l2 + 1) 8).bind fun _u14 => ((value_Node_Tags.l8 q8) (x4 + 1) (l2 ++ [y8.ftag]))
def value_Node_Tags (a0 : GValueNode) : Option (List Int) :=
  (value_Node_Tags.l8 a0.fentries 0 ([] : List Int))
theorem value_Node_Tags.own (a0 : GValueNode) (r : List Int) (h : value_Node_Tags a0 = some r) : ACalls Tryd.prog 105 [.dp (encGValueNode a0) 0] [] (fun r' σ' => r' = .os true 1 0 0 0 (List.length r) false ∧ σ' = [.cells 0 (List.flatMap encI r)]) := by
 refine ACalls.own0 (by simp only [push_cast]) ?_
 refine acalls_own (rs := [.tmp 2]) tok Tryd.func105 rfl Tryd.ntmps105 rfl Tryd.call105 (by simp) ?_
 refine awp_args [(0, .dp (encGValueNode a0) 0)] ⟨rfl, trivial⟩ ?_
 unfold value_Node_Tags at h
 refine rg tok [0] fun K hK => ?_
 simp only [go_sem, reduceLT, reduceLeDiff, reduceEqDiff, reduceAdd, reduceMul, reduceSub, reduceIte, reduceCtorEq]
 refine hK _ _ ?_
 clear hK K
 refine rg tok [0, 3] fun K hK => ?_
 simp only [go_sem, reduceLT, reduceLeDiff, reduceEqDiff, reduceAdd, reduceMul, reduceSub, reduceIte, reduceCtorEq]
 refine hK _ _ ?_
 clear hK K
 refine awp_virtS 3 1 rfl ?_
 refine awp_tellS (L := [(0, .dp (encGValueNode a0) 0), (3, .os true 1 0 0 0 (List.length ([] : List Int)) false)]) (τ := [.cells 0 (List.flatMap encI ([] : List Int))]) .s ?_
 refine awp_seq_k fun Z1 hZ1 => ?_
 refine rg tok [3, 9, 10, 11] fun K hK => ?_
 simp only [go_sem, reduceLT, reduceLeDiff, reduceEqDiff, reduceAdd, reduceMul, reduceSub, reduceIte, reduceCtorEq, encGValueNode, evLoad_dp]
 refine hK _ _ ?_
 clear hK K
 refine awp_block ?_
 refine awp_deep 9 fun hb8 => ?_
 replace hb8 : List.length a0.fentries ≤ 9223372036854775807 := hb8.1
 refine awp_loopS (fun m L τ => ∃ (p8 q8 : List GValueEntry) (x4 : Int) (l2 : List Int) (v3 : Nat), m = List.length q8 ∧ L = ([(3, .os true 1 0 v3 0 (List.length l2) false), (9, .ds true (List.flatMap encGValueEntry a0.fentries) (List.length a0.fentries) false), (10, .int .i64 (List.length a0.fentries : Int)), (11, .int .i64 x4)] : List (Nat × AV)) ∧ τ = ([.cells v3 (List.flatMap encI l2)] : Store) ∧ a0.fentries = p8 ++ q8 ∧ x4 = (List.length p8 : Int) ∧ value_Node_Tags.l8 q8 x4 l2 = some r) _ ⟨[], a0.fentries, 0, ([] : List Int), 0, rfl, rfl, rfl, rfl, rfl, h⟩ .s ?_
 rintro m L τ ⟨p8, q8, x4, l2, v3, rfl, rfl, rfl, hE8, hi8, h⟩
 rcases q8 with _ | ⟨y8, q8⟩
 · have hz8 := zip_nil hE8 hi8
   simp only [value_Node_Tags.l8] at h
   refine rg tok [3, 9, 10, 11, 12] fun K hK => ?_
   simp only [go_sem, reduceLT, reduceLeDiff, reduceEqDiff, reduceAdd, reduceMul, reduceSub, reduceIte, reduceCtorEq, evEq, hz8]
   refine hK _ _ ?_
   clear hK K
   refine awp_seq_k fun Z9 hZ9 => ?_
   refine awp_cond_f rfl ?_
   refine awp_exit ?_
   refine hZ1 _ _ ?_
   refine rg tok [2] fun K hK => ?_
   simp only [go_sem, reduceLT, reduceLeDiff, reduceEqDiff, reduceAdd, reduceMul, reduceSub, reduceIte, reduceCtorEq, hz8]
   refine hK _ _ ?_
   clear hK K
   refine awp_ret ?_
   obtain rfl := Option.some.inj h
   simp only [retQ, resAll, resOne, resAV, exists_eq_left', go_sem, reduceLT, reduceLeDiff, reduceEqDiff, reduceAdd, reduceMul, reduceSub, reduceIte, reduceCtorEq]
   refine ⟨0, v3, by simp, ?_, ?_⟩
   · first | rfl | (simp only [go_sem, reduceLT, reduceLeDiff, reduceEqDiff, reduceAdd, reduceMul, reduceSub, reduceIte, reduceCtorEq, push_cast, if_true, List.drop_zero, Nat.zero_add, List.map_cons, List.map_nil, List.map_append, Bool.or_true, Bool.or_false, Bool.and_true, Bool.and_false, Bool.not_true, Bool.not_false, tellL_all] <;> rfl)
   · first | rfl | (simp only [go_sem, reduceLT, reduceLeDiff, reduceEqDiff, reduceAdd, reduceMul, reduceSub, reduceIte, reduceCtorEq, push_cast, if_true, List.drop_zero, Nat.zero_add, List.map_cons, List.map_nil, List.map_append, Bool.or_true, Bool.or_false, Bool.and_true, Bool.and_false, Bool.not_true, Bool.not_false, tellL_all] <;> rfl)
 · obtain ⟨hz8, hw8, hx8, hE'8, hi'8⟩ := zip_cons hE8 hi8 hb8
   simp only [value_Node_Tags.l8] at h
   refine rg tok [3, 9, 10, 11, 12] fun K hK => ?_
   simp only [go_sem, reduceLT, reduceLeDiff, reduceEqDiff, reduceAdd, reduceMul, reduceSub, reduceIte, reduceCtorEq, evEq, hz8, hw8]
   refine hK _ _ ?_
   clear hK K
   refine awp_seq_k fun Z10 hZ10 => ?_
   refine awp_cond_t rfl ?_
   refine awp_skip ?_
   refine hZ10 _ _ ?_
   refine awp_seq_k fun Z11 hZ11 => ?_
   refine awp_block ?_
   have f12 := E172.idxS hx8
   have f13 := E172.loadS rfl rfl hx8
   refine rg tok [3, 5, 9, 10, 11] fun K hK => ?_
   simp only [go_sem, reduceLT, reduceLeDiff, reduceEqDiff, reduceAdd, reduceMul, reduceSub, reduceIte, reduceCtorEq, cellsGValueEntry, encGValueEntry_eq, hz8, hw8, f12, f13]
   refine hK _ _ ?_
   clear hK K
   obtain ⟨_u14, hu14, h⟩ := bind_some h
   have gu14 := room_some hu14
   have f15 := (enc_length E24.len l2)
   refine rgE tok [3, 9, 10, 11] fun K hK => ?_
   simp only [go_sem, reduceLT, reduceLeDiff, reduceEqDiff, reduceAdd, reduceMul, reduceSub, reduceIte, reduceCtorEq, evBuildSlice, zeroRun, List.range_succ, List.range_zero, Nat.zero_le, true_and, Nat.reduceMod, evAppend, evAppendTo, lenOfAV, encI, hz8, hw8, gu14, f15, srcCells_o, List.all_nil, List.all_cons, AV.one, Bool.and_self, Bool.and_true, gt_iff_lt, setI_length, List.flatMap_append, List.flatMap_cons, List.flatMap_nil, List.append_nil, List.nil_append, List.length_append, List.length_cons, List.length_nil, Nat.zero_add, List.append_assoc, List.cons_append]
   refine hK _ _ ?_
   clear hK K
   refine hZ11 _ _ ?_
   refine rgE tok [3, 9, 10, 11] fun K hK => ?_
   simp only [go_sem, reduceLT, reduceLeDiff, reduceEqDiff, reduceAdd, reduceMul, reduceSub, reduceIte, reduceCtorEq, evEq, hz8, hw8]
   refine hK _ _ ?_
   clear hK K
   exact ⟨_, _, _, Nat.lt_succ_self q8.length, ⟨p8 ++ [y8], q8, x4 + 1, l2 ++ [y8.ftag], v3 + 1, rfl, rfl, rfl, hE'8, hi'8, h⟩, (.t [0] false)⟩
theorem value_Node_Tags.ok (a0 : GValueNode) (r : List Int) (h : value_Node_Tags a0 = some r) : ACalls Tryd.prog 105 [.dp (encGValueNode a0) 0] [] (fun r' _ => r' = .ds true (List.flatMap encI r) (List.length r) false) :=
 (value_Node_Tags.own a0 r h).ownData (enc_length E24.len r) (by simp only [push_cast])
theorem value_Node_Tags.ev (a0 : GValueNode) (r : List Int) (h : value_Node_Tags a0 = some r) (σ : Store) : ACalls Tryd.prog 105 [.dp (encGValueNode a0) 0] σ (fun r' σ' => r' = .ds true (List.flatMap encI r) (List.length r) false ∧ σ' = σ) :=
 (value_Node_Tags.ok a0 r h).c σ
def slices_Clone_Value (a0 : List GValueValue) : Option (List GValueValue) := (room (List.length a0) 16).bind fun _ => some a0
theorem slices_Clone_Value.own (a0 r : List GValueValue) (h : slices_Clone_Value a0 = some r) : ACalls Tryd.prog 125 [.ds true (List.flatMap encGValueValue a0) (List.length a0) false] [] (fun r' σ' => r' = .os true 1 0 0 0 (List.length r) false ∧ σ' = [.cells 0 (List.flatMap encGValueValue r)]) := by
 obtain ⟨_u, hu, h⟩ := bind_some h
 have gu := room_some hu
 obtain rfl := Option.some.inj h
 have f1 := fun nl tt σ => srcCells_enc E155.len a0 nl tt σ
 have f2 := enc_length E155.len a0
 have f3 := ones_all encGValueValue a0
 refine acalls_ownN (rs := [.tmp 2]) tok Tryd.func125 rfl Tryd.ntmps125 rfl Tryd.call125 (by simp) ?_
 refine awp_args [(0, .ds true (List.flatMap encGValueValue a0) (List.length a0) false)] ⟨rfl, trivial⟩ ?_
 refine rg tok [0] fun K hK => ?_
 simp only [go_sem, reduceLT, reduceLeDiff, reduceEqDiff, reduceAdd, reduceMul, reduceSub, reduceIte, reduceCtorEq]
 refine hK _ _ ?_
 clear hK K
 refine awp_seq_k fun Z1 hZ1 => ?_
 refine rc [0, 4] fun K hK => ?_
 refine opsRunN tok 1 ?_
 simp only [go_sem, reduceLT, reduceLeDiff, reduceEqDiff, reduceAdd, reduceMul, reduceSub, reduceIte, reduceCtorEq]
 refine opsWp_snil tok rfl rfl rfl rfl rfl rfl fun b hnil => ?_
 have hb : b = true → a0 = [] := fun hb => by
  have := hnil hb
  simp only [lenOfAV, go_sem, reduceLT, reduceLeDiff, reduceEqDiff, reduceAdd, reduceMul, reduceSub, reduceIte, reduceCtorEq] at this
  exact List.eq_nil_of_length_eq_zero this
 clear hnil
 refine opsWp_nil ?_
 simp only [thenQ_normal, keepS_cons, keepS_nil, updO, upd, reduceEqDiff, reduceIte, fs_cons, fs_nil]
 refine hK _ _ ?_
 clear hK K
 cases b
 · refine awp_cond_f rfl ?_
   refine awp_skip ?_
   refine hZ1 _ _ ?_
   refine rg tok [2] fun K hK => ?_
   by_cases h0 : List.length a0 = 0
   · obtain rfl := List.eq_nil_of_length_eq_zero h0
     simp only [go_sem, reduceLT, reduceLeDiff, reduceEqDiff, reduceAdd, reduceMul, reduceSub, reduceIte, reduceCtorEq, evBuildSlice, zeroRun, List.range_zero, Nat.zero_le, evAppend, evAppendTo, lenOfAV, srcCells, List.flatMap_nil, List.length_nil, Nat.zero_mul, List.all_nil, gt_iff_lt]
     refine hK _ _ ?_
     clear hK K
     refine awp_ret ?_
     simp only [retQ, resAll, resOne, resAV, exists_eq_left', go_sem, reduceLT, reduceLeDiff, reduceEqDiff, reduceAdd, reduceMul, reduceSub, reduceIte, reduceCtorEq]
     refine .inl ⟨0, true, by simp, ?_, ?_⟩
     · first | rfl | (simp only [go_sem, reduceLT, reduceLeDiff, reduceEqDiff, reduceAdd, reduceMul, reduceSub, reduceIte, reduceCtorEq, tell_os, idxOf_cons, if_true] <;> rfl)
     · first | rfl | (simp only [go_sem, reduceLT, reduceLeDiff, reduceEqDiff, reduceAdd, reduceMul, reduceSub, reduceIte, reduceCtorEq, tellS_cons, tellS_nil, tellO_cells, store_get0, store_getS, List.map_nil] <;> rfl)
   · have h1 := eq_false h0
     simp only [go_sem, reduceLT, reduceLeDiff, reduceEqDiff, reduceAdd, reduceMul, reduceSub, reduceIte, reduceCtorEq, evBuildSlice, zeroRun, List.range_zero, Nat.zero_le, evAppend, evAppendTo, lenOfAV, f1, f3, h1, gu, srcCells_o, gt_iff_lt, List.map_nil, List.nil_append, Nat.zero_mul]
     refine hK _ _ ?_
     clear hK K
     refine awp_ret ?_
     simp only [retQ, resAll, resOne, resAV, exists_eq_left', go_sem, reduceLT, reduceLeDiff, reduceEqDiff, reduceAdd, reduceMul, reduceSub, reduceIte, reduceCtorEq]
     refine .inl ⟨1, false, by simp, ?_, ?_⟩
     · first | rfl | (simp only [go_sem, reduceLT, reduceLeDiff, reduceEqDiff, reduceAdd, reduceMul, reduceSub, reduceIte, reduceCtorEq, tell_os, idxOf_cons, if_true] <;> rfl)
     · first | rfl | (simp only [go_sem, reduceLT, reduceLeDiff, reduceEqDiff, reduceAdd, reduceMul, reduceSub, reduceIte, reduceCtorEq, tellS_cons, tellS_nil, tellO_cells, store_get0, store_getS, tellL_all] <;> rfl)
 · obtain rfl := hb rfl
   refine awp_cond_t rfl ?_
   refine rg tok [2] fun K hK => ?_
   simp only [go_sem, reduceLT, reduceLeDiff, reduceEqDiff, reduceAdd, reduceMul, reduceSub, reduceIte, reduceCtorEq]
   refine hK _ _ ?_
   clear hK K
   refine awp_ret ?_
   simp only [retQ, resAll, resOne, resAV, exists_eq_left', go_sem, reduceLT, reduceLeDiff, reduceEqDiff, reduceAdd, reduceMul, reduceSub, reduceIte, reduceCtorEq]
   refine .inr ?_
   first | rfl | (simp only [go_sem, reduceLT, reduceLeDiff, reduceEqDiff, reduceAdd, reduceMul, reduceSub, reduceIte, reduceCtorEq, tell_ds, List.map_nil, Bool.or_true, Bool.or_false, Bool.not_false, Bool.and_true] <;> rfl)
def value_Node_Get.l4 (a1 : Int) : List GValueEntry → Int → Option (List GValueValue)
  | [], x2 => some ([] : List GValueValue)
  | y4 :: q4, x2 => (if y4.ftag = a1 then (slices_Clone_Value y4.fl).bind fun r12 => some r12 else ((value_Node_Get.l4 a1 q4) (x2 + 1)))
def value_Node_Get (a0 : GValueNode) (a1 : Int) : Option (List GValueValue) :=
  (value_Node_Get.l4 a1 a0.fentries 0)
theorem value_Node_Get.ok (a0 : GValueNode) (a1 : Int) (r : List GValueValue) (h : value_Node_Get a0 a1 = some r) : ACalls Tryd.prog 106 [.dp (encGValueNode a0) 0, .int .i64 a1] [] (fun r' _ => r' = .ds true (List.flatMap encGValueValue r) (List.length r) false) := by
 refine acalls_pure (rs := [.tmp 4]) tok Tryd.func106 rfl Tryd.ntmps106 rfl Tryd.call106 (by simp) ?_
 refine awp_args [(0, .dp (encGValueNode a0) 0), (1, .int .i64 a1)] ⟨rfl, rfl, trivial⟩ ?_
 unfold value_Node_Get at h
 refine rg tok [0, 1] fun K hK => ?_
 simp only [go_sem, reduceLT, reduceLeDiff, reduceEqDiff, reduceAdd, reduceMul, reduceSub, reduceIte, reduceCtorEq]
 refine hK _ _ ?_
 clear hK K
 refine awp_seq_k fun Z1 hZ1 => ?_
 refine rg tok [1, 10, 11, 12] fun K hK => ?_
 simp only [go_sem, reduceLT, reduceLeDiff, reduceEqDiff, reduceAdd, reduceMul, reduceSub, reduceIte, reduceCtorEq, encGValueNode, evLoad_dp]
 refine hK _ _ ?_
 clear hK K
 refine awp_block ?_
 refine awp_deep 10 fun hb4 => ?_
 replace hb4 : List.length a0.fentries ≤ 9223372036854775807 := hb4.1
 refine awp_loopS (fun m L τ => ∃ (p4 q4 : List GValueEntry) (x2 : Int), m = List.length q4 ∧ L = ([(1, .int .i64 a1), (10, .ds true (List.flatMap encGValueEntry a0.fentries) (List.length a0.fentries) false), (11, .int .i64 (List.length a0.fentries : Int)), (12, .int .i64 x2)] : List (Nat × AV)) ∧ τ = ([] : Store) ∧ a0.fentries = p4 ++ q4 ∧ x2 = (List.length p4 : Int) ∧ value_Node_Get.l4 a1 q4 x2 = some r) _ ⟨[], a0.fentries, 0, rfl, rfl, rfl, rfl, rfl, h⟩ .s ?_
 rintro m L τ ⟨p4, q4, x2, rfl, rfl, rfl, hE4, hi4, h⟩
 rcases q4 with _ | ⟨y4, q4⟩
 · have hz4 := zip_nil hE4 hi4
   simp only [value_Node_Get.l4] at h
   refine rg tok [1, 10, 11, 12, 13] fun K hK => ?_
   simp only [go_sem, reduceLT, reduceLeDiff, reduceEqDiff, reduceAdd, reduceMul, reduceSub, reduceIte, reduceCtorEq, evEq, hz4]
   refine hK _ _ ?_
   clear hK K
   refine awp_seq_k fun Z5 hZ5 => ?_
   refine awp_cond_f rfl ?_
   refine awp_exit ?_
   refine hZ1 _ _ ?_
   refine rg tok [4] fun K hK => ?_
   simp only [go_sem, reduceLT, reduceLeDiff, reduceEqDiff, reduceAdd, reduceMul, reduceSub, reduceIte, reduceCtorEq, hz4]
   refine hK _ _ ?_
   clear hK K
   refine awp_ret ?_
   obtain rfl := Option.some.inj h
   exact retA
 · obtain ⟨hz4, hw4, hx4, hE'4, hi'4⟩ := zip_cons hE4 hi4 hb4
   simp only [value_Node_Get.l4] at h
   refine rg tok [1, 10, 11, 12, 13] fun K hK => ?_
   simp only [go_sem, reduceLT, reduceLeDiff, reduceEqDiff, reduceAdd, reduceMul, reduceSub, reduceIte, reduceCtorEq, evEq, hz4, hw4]
   refine hK _ _ ?_
   clear hK K
   refine awp_seq_k fun Z6 hZ6 => ?_
   refine awp_cond_t rfl ?_
   refine awp_skip ?_
   refine hZ6 _ _ ?_
   refine awp_seq_k fun Z7 hZ7 => ?_
   refine awp_block ?_
   have f8 := E172.idxS hx4
   have f9 := E172.loadS rfl rfl hx4
   refine rg tok [1, 6, 10, 11, 12] fun K hK => ?_
   simp only [go_sem, reduceLT, reduceLeDiff, reduceEqDiff, reduceAdd, reduceMul, reduceSub, reduceIte, reduceCtorEq, cellsGValueEntry, encGValueEntry_eq, hz4, hw4, f8, f9]
   refine hK _ _ ?_
   clear hK K
   refine rg tok [1, 6, 10, 11, 12, 19] fun K hK => ?_
   simp only [go_sem, reduceLT, reduceLeDiff, reduceEqDiff, reduceAdd, reduceMul, reduceSub, reduceIte, reduceCtorEq, evEq, hz4, hw4]
   refine hK _ _ ?_
   clear hK K
   refine awp_if rfl (fun hc10 => ?_) (fun hc10 => ?_)
   · skip
     rw [if_pos hc10] at h
     have t11 := eq_true hc10
     refine rc [4] fun K hK => ?_
     obtain ⟨r12, hr12, h⟩ := bind_some h
     refine opsRunN tok 2 ?_
     simp only [go_sem, reduceLT, reduceLeDiff, reduceEqDiff, reduceAdd, reduceMul, reduceSub, reduceIte, reduceCtorEq, hz4, hw4, t11]
     refine opsWp_callD rfl rfl rfl (@id (ACalls Tryd.prog 125 [.ds true (List.flatMap encGValueValue y4.fl) (List.length y4.fl) false] [.cells 0 [.int .i64 y4.ftag, .ds true (List.flatMap encGValueValue y4.fl) (List.length y4.fl) false]] (fun r' σ' => r' = .os true 1 1 0 0 (List.length r12) false ∧ σ' = [.cells 0 [.int .i64 y4.ftag, .ds true (List.flatMap encGValueValue y4.fl) (List.length y4.fl) false], .cells 0 (List.flatMap encGValueValue r12)])) ((slices_Clone_Value.own y4.fl r12 hr12).ownAt0 (by simp only [push_cast]) (by simp only [push_cast]) _)) ?_
     rintro _ _ ⟨rfl, rfl⟩
     refine opsRunN tok 1 ?_
     simp only [go_sem, reduceLT, reduceLeDiff, reduceEqDiff, reduceAdd, reduceMul, reduceSub, reduceIte, reduceCtorEq, hz4, hw4, t11]
     refine opsWp_nil ?_
     simp only [thenQ_normal, keepS_cons, keepS_nil, updO, upd, reduceEqDiff, reduceIte, fs_cons, fs_nil]
     refine hK _ _ ?_
     clear hK K
     refine awp_ret ?_
     obtain rfl := Option.some.inj h
     exact retA
   · skip
     rw [if_neg hc10] at h
     have t13 := eq_false hc10
     refine awp_skip ?_
     refine hZ7 _ _ ?_
     refine rgE tok [1, 10, 11, 12] fun K hK => ?_
     simp only [go_sem, reduceLT, reduceLeDiff, reduceEqDiff, reduceAdd, reduceMul, reduceSub, reduceIte, reduceCtorEq, evEq, hz4, hw4, t13]
     refine hK _ _ ?_
     clear hK K
     exact ⟨_, _, _, Nat.lt_succ_self q4.length, ⟨p4 ++ [y4], q4, x2 + 1, rfl, rfl, rfl, hE'4, hi'4, h⟩, (.t [] false)⟩
theorem value_Node_Get.ev (a0 : GValueNode) (a1 : Int) (r : List GValueValue) (h : value_Node_Get a0 a1 = some r) (σ : Store) : ACalls Tryd.prog 106 [.dp (encGValueNode a0) 0, .int .i64 a1] σ (fun r' σ' => r' = .ds true (List.flatMap encGValueValue r) (List.length r) false ∧ σ' = σ) :=
 (value_Node_Get.ok a0 a1 r h).c σ
def value_Value_AsNum (a0 : GValueValue) : Int × Bool :=
  (match a0 with | .nil => (0, false) | .num n2 => (n2, true) | .str s2 => (0, false) | .node e2 r2 => (0, false))
theorem value_Value_AsNum.ok (a0 : GValueValue) (r : Int × Bool) (h : value_Value_AsNum a0 = r) : ACalls Tryd.prog 130 [.agg (encGValueValue a0)] [] (fun r' _ => r' = .tup [.int .i64 r.1, .bool r.2]) := by
 refine acalls_pure (rs := [.tmp 2, .tmp 3]) tok Tryd.func130 rfl Tryd.ntmps130 rfl Tryd.call130 (by simp) ?_
 refine awp_args [(0, .agg (encGValueValue a0))] ⟨rfl, trivial⟩ ?_
 unfold value_Value_AsNum at h
 have f1 := oneIfcV a0
 unfold AV.one at f1
 refine rg tok [1] fun K hK => ?_
 simp only [go_sem, reduceLT, reduceLeDiff, reduceEqDiff, reduceAdd, reduceMul, reduceSub, reduceIte, reduceCtorEq, encGValueValue, f1]
 refine hK _ _ ?_
 clear hK K
 rcases a0 with _ | n2 | s2 | ⟨e2, r2⟩
 · skip
   dsimp only at h
   try simp only [ifcV_nil, anyV_nil, encGValueValue]
   refine rg tok [4, 5] fun K hK => ?_
   simp only [go_sem, reduceLT, reduceLeDiff, reduceEqDiff, reduceAdd, reduceMul, reduceSub, reduceIte, reduceCtorEq, evAssert, assertIn, TypeDesc.isIface]
   refine hK _ _ ?_
   clear hK K
   refine rg tok [2, 3] fun K hK => ?_
   simp only [go_sem, reduceLT, reduceLeDiff, reduceEqDiff, reduceAdd, reduceMul, reduceSub, reduceIte, reduceCtorEq]
   refine hK _ _ ?_
   clear hK K
   refine awp_ret ?_
   obtain rfl := h
   exact retA
 · skip
   dsimp only at h
   try simp only [ifcV_num, anyV_num, encGValueValue]
   refine rg tok [4, 5] fun K hK => ?_
   simp only [go_sem, reduceLT, reduceLeDiff, reduceEqDiff, reduceAdd, reduceMul, reduceSub, reduceIte, reduceCtorEq, evAssert, assertIn, TypeDesc.isIface]
   refine hK _ _ ?_
   clear hK K
   refine rg tok [2, 3] fun K hK => ?_
   simp only [go_sem, reduceLT, reduceLeDiff, reduceEqDiff, reduceAdd, reduceMul, reduceSub, reduceIte, reduceCtorEq]
   refine hK _ _ ?_
   clear hK K
   refine awp_ret ?_
   obtain rfl := h
   exact retA
 · skip
   dsimp only at h
   try simp only [ifcV_str, anyV_str, encGValueValue]
   refine rg tok [4, 5] fun K hK => ?_
   simp only [go_sem, reduceLT, reduceLeDiff, reduceEqDiff, reduceAdd, reduceMul, reduceSub, reduceIte, reduceCtorEq, evAssert, assertIn, TypeDesc.isIface]
   refine hK _ _ ?_
   clear hK K
   refine rg tok [2, 3] fun K hK => ?_
   simp only [go_sem, reduceLT, reduceLeDiff, reduceEqDiff, reduceAdd, reduceMul, reduceSub, reduceIte, reduceCtorEq]
   refine hK _ _ ?_
   clear hK K
   refine awp_ret ?_
   obtain rfl := h
   exact retA
 · skip
   dsimp only at h
   try simp only [ifcV_node, anyV_node, encGValueValue]
   refine rg tok [4, 5] fun K hK => ?_
   simp only [go_sem, reduceLT, reduceLeDiff, reduceEqDiff, reduceAdd, reduceMul, reduceSub, reduceIte, reduceCtorEq, evAssert, assertIn, TypeDesc.isIface]
   refine hK _ _ ?_
   clear hK K
   refine rg tok [2, 3] fun K hK => ?_
   simp only [go_sem, reduceLT, reduceLeDiff, reduceEqDiff, reduceAdd, reduceMul, reduceSub, reduceIte, reduceCtorEq]
   refine hK _ _ ?_
   clear hK K
   refine awp_ret ?_
   obtain rfl := h
   exact retA
theorem value_Value_AsNum.ev (a0 : GValueValue) (r : Int × Bool) (h : value_Value_AsNum a0 = r) (σ : Store) : ACalls Tryd.prog 130 [.agg (encGValueValue a0)] σ (fun r' σ' => r' = .tup [.int .i64 r.1, .bool r.2] ∧ σ' = σ) :=
 (value_Value_AsNum.ok a0 r h).c σ
def value_Value_AsStr (a0 : GValueValue) : List UInt8 × Bool :=
  (match a0 with | .nil => ([], false) | .num n2 => ([], false) | .str s2 => (s2, true) | .node e2 r2 => ([], false))
theorem value_Value_AsStr.ok (a0 : GValueValue) (r : List UInt8 × Bool) (h : value_Value_AsStr a0 = r) : ACalls Tryd.prog 131 [.agg (encGValueValue a0)] [] (fun r' _ => r' = .tup [.str r.1, .bool r.2]) := by
 refine acalls_pure (rs := [.tmp 2, .tmp 3]) tok Tryd.func131 rfl Tryd.ntmps131 rfl Tryd.call131 (by simp) ?_
 refine awp_args [(0, .agg (encGValueValue a0))] ⟨rfl, trivial⟩ ?_
 unfold value_Value_AsStr at h
 have f1 := oneIfcV a0
 unfold AV.one at f1
 refine rg tok [1] fun K hK => ?_
 simp only [go_sem, reduceLT, reduceLeDiff, reduceEqDiff, reduceAdd, reduceMul, reduceSub, reduceIte, reduceCtorEq, encGValueValue, f1]
 refine hK _ _ ?_
 clear hK K
 rcases a0 with _ | n2 | s2 | ⟨e2, r2⟩
 · skip
   dsimp only at h
   try simp only [ifcV_nil, anyV_nil, encGValueValue]
   refine rg tok [4, 5] fun K hK => ?_
   simp only [go_sem, reduceLT, reduceLeDiff, reduceEqDiff, reduceAdd, reduceMul, reduceSub, reduceIte, reduceCtorEq, evAssert, assertIn, TypeDesc.isIface]
   refine hK _ _ ?_
   clear hK K
   refine rg tok [2, 3] fun K hK => ?_
   simp only [go_sem, reduceLT, reduceLeDiff, reduceEqDiff, reduceAdd, reduceMul, reduceSub, reduceIte, reduceCtorEq]
   refine hK _ _ ?_
   clear hK K
   refine awp_ret ?_
   obtain rfl := h
   exact retA
 · skip
   dsimp only at h
   try simp only [ifcV_num, anyV_num, encGValueValue]
   refine rg tok [4, 5] fun K hK => ?_
   simp only [go_sem, reduceLT, reduceLeDiff, reduceEqDiff, reduceAdd, reduceMul, reduceSub, reduceIte, reduceCtorEq, evAssert, assertIn, TypeDesc.isIface]
   refine hK _ _ ?_
   clear hK K
   refine rg tok [2, 3] fun K hK => ?_
   simp only [go_sem, reduceLT, reduceLeDiff, reduceEqDiff, reduceAdd, reduceMul, reduceSub, reduceIte, reduceCtorEq]
   refine hK _ _ ?_
   clear hK K
   refine awp_ret ?_
   obtain rfl := h
   exact retA
 · skip
   dsimp only at h
   try simp only [ifcV_str, anyV_str, encGValueValue]
   refine rg tok [4, 5] fun K hK => ?_
   simp only [go_sem, reduceLT, reduceLeDiff, reduceEqDiff, reduceAdd, reduceMul, reduceSub, reduceIte, reduceCtorEq, evAssert, assertIn, TypeDesc.isIface]
   refine hK _ _ ?_
   clear hK K
   refine rg tok [2, 3] fun K hK => ?_
   simp only [go_sem, reduceLT, reduceLeDiff, reduceEqDiff, reduceAdd, reduceMul, reduceSub, reduceIte, reduceCtorEq]
   refine hK _ _ ?_
   clear hK K
   refine awp_ret ?_
   obtain rfl := h
   exact retA
 · skip
   dsimp only at h
   try simp only [ifcV_node, anyV_node, encGValueValue]
   refine rg tok [4, 5] fun K hK => ?_
   simp only [go_sem, reduceLT, reduceLeDiff, reduceEqDiff, reduceAdd, reduceMul, reduceSub, reduceIte, reduceCtorEq, evAssert, assertIn, TypeDesc.isIface]
   refine hK _ _ ?_
   clear hK K
   refine rg tok [2, 3] fun K hK => ?_
   simp only [go_sem, reduceLT, reduceLeDiff, reduceEqDiff, reduceAdd, reduceMul, reduceSub, reduceIte, reduceCtorEq]
   refine hK _ _ ?_
   clear hK K
   refine awp_ret ?_
   obtain rfl := h
   exact retA
theorem value_Value_AsStr.ev (a0 : GValueValue) (r : List UInt8 × Bool) (h : value_Value_AsStr a0 = r) (σ : Store) : ACalls Tryd.prog 131 [.agg (encGValueValue a0)] σ (fun r' σ' => r' = .tup [.str r.1, .bool r.2] ∧ σ' = σ) :=
 (value_Value_AsStr.ok a0 r h).c σ
def encode_kept (a0 : GValueValue) : Option GValueValue :=
  bnd (value_Value_AsNum a0) fun r3 => (if r3.2 = true then some (GValueValue.num r3.1) else bnd (value_Value_AsStr a0) fun r6 => (if r6.2 = true then some (GValueValue.str r6.1) else (value_Value_MustNode a0).bind fun r8 => some (GValueValue.node r8.fentries r8.frest)))
theorem encode_kept.ok (a0 : GValueValue) (r : GValueValue) (h : encode_kept a0 = some r) : ACalls Tryd.prog 126 [.agg (encGValueValue a0)] [] (fun r' _ => r' = anyV r) := by
 refine acalls_pure (rs := [.tmp 2]) tok Tryd.func126 rfl Tryd.ntmps126 rfl Tryd.call126 (by simp) ?_
 refine awp_args [(0, .agg (encGValueValue a0))] ⟨rfl, trivial⟩ ?_
 unfold encode_kept at h
 have f1 := oneIfcV a0
 unfold AV.one at f1
 refine rg tok [1] fun K hK => ?_
 simp only [go_sem, reduceLT, reduceLeDiff, reduceEqDiff, reduceAdd, reduceMul, reduceSub, reduceIte, reduceCtorEq, encGValueValue, f1]
 refine hK _ _ ?_
 clear hK K
 refine awp_seq_k fun Z2 hZ2 => ?_
 refine rc [1, 3, 4] fun K hK => ?_
 obtain ⟨r3, hr3, h⟩ := bnd_elim h
 refine opsRunN tok 1 ?_
 simp only [go_sem, reduceLT, reduceLeDiff, reduceEqDiff, reduceAdd, reduceMul, reduceSub, reduceIte, reduceCtorEq, encGValueValue]
 refine opsWp_callD rfl rfl rfl (value_Value_AsNum.ev a0 r3 hr3 _) ?_
 rintro _ _ ⟨rfl, rfl⟩
 refine opsRunN tok 5 ?_
 simp only [go_sem, reduceLT, reduceLeDiff, reduceEqDiff, reduceAdd, reduceMul, reduceSub, reduceIte, reduceCtorEq, encGValueValue]
 refine opsWp_nil ?_
 simp only [thenQ_normal, keepS_cons, keepS_nil, updO, upd, reduceEqDiff, reduceIte, fs_cons, fs_nil]
 refine hK _ _ ?_
 clear hK K
 refine rg tok [1, 3, 12] fun K hK => ?_
 simp only [go_sem, reduceLT, reduceLeDiff, reduceEqDiff, reduceAdd, reduceMul, reduceSub, reduceIte, reduceCtorEq]
 refine hK _ _ ?_
 clear hK K
 refine awp_cond (b := r3.2) rfl (fun hc4 => ?_) (fun hc4 => ?_)
 · skip
   rw [if_pos hc4] at h
   refine rg tok [2] fun K hK => ?_
   simp only [go_sem, reduceLT, reduceLeDiff, reduceEqDiff, reduceAdd, reduceMul, reduceSub, reduceIte, reduceCtorEq]
   refine hK _ _ ?_
   clear hK K
   refine awp_ret ?_
   obtain rfl := Option.some.inj h
   exact retA
 · skip
   rw [if_F hc4] at h
   refine awp_skip ?_
   refine hZ2 _ _ ?_
   refine awp_seq_k fun Z5 hZ5 => ?_
   refine rc [1, 5, 6] fun K hK => ?_
   obtain ⟨r6, hr6, h⟩ := bnd_elim h
   refine opsRunN tok 1 ?_
   simp only [go_sem, reduceLT, reduceLeDiff, reduceEqDiff, reduceAdd, reduceMul, reduceSub, reduceIte, reduceCtorEq, encGValueValue]
   refine opsWp_callD rfl rfl rfl (value_Value_AsStr.ev a0 r6 hr6 _) ?_
   rintro _ _ ⟨rfl, rfl⟩
   refine opsRunN tok 5 ?_
   simp only [go_sem, reduceLT, reduceLeDiff, reduceEqDiff, reduceAdd, reduceMul, reduceSub, reduceIte, reduceCtorEq, encGValueValue]
   refine opsWp_nil ?_
   simp only [thenQ_normal, keepS_cons, keepS_nil, updO, upd, reduceEqDiff, reduceIte, fs_cons, fs_nil]
   refine hK _ _ ?_
   clear hK K
   refine rg tok [1, 5, 20] fun K hK => ?_
   simp only [go_sem, reduceLT, reduceLeDiff, reduceEqDiff, reduceAdd, reduceMul, reduceSub, reduceIte, reduceCtorEq]
   refine hK _ _ ?_
   clear hK K
   refine awp_cond (b := r6.2) rfl (fun hc7 => ?_) (fun hc7 => ?_)
   · skip
     rw [if_pos hc7] at h
     refine rg tok [2] fun K hK => ?_
     simp only [go_sem, reduceLT, reduceLeDiff, reduceEqDiff, reduceAdd, reduceMul, reduceSub, reduceIte, reduceCtorEq]
     refine hK _ _ ?_
     clear hK K
     refine awp_ret ?_
     obtain rfl := Option.some.inj h
     exact retA
   · skip
     rw [if_F hc7] at h
     refine awp_skip ?_
     refine hZ5 _ _ ?_
     refine rc [2] fun K hK => ?_
     obtain ⟨r8, hr8, h⟩ := bind_some h
     refine opsRunN tok 1 ?_
     simp only [go_sem, reduceLT, reduceLeDiff, reduceEqDiff, reduceAdd, reduceMul, reduceSub, reduceIte, reduceCtorEq, encGValueValue]
     refine opsWp_callD rfl rfl rfl (value_Value_MustNode.ev a0 r8 hr8 _) ?_
     rintro _ _ ⟨rfl, rfl⟩
     refine opsRunN tok 2 ?_
     simp only [go_sem, reduceLT, reduceLeDiff, reduceEqDiff, reduceAdd, reduceMul, reduceSub, reduceIte, reduceCtorEq, encGValueValue]
     refine opsWp_nil ?_
     simp only [thenQ_normal, keepS_cons, keepS_nil, updO, upd, reduceEqDiff, reduceIte, fs_cons, fs_nil]
     refine hK _ _ ?_
     clear hK K
     refine awp_ret ?_
     obtain rfl := Option.some.inj h
     exact retA
theorem encode_kept.ev (a0 : GValueValue) (r : GValueValue) (h : encode_kept a0 = some r) (σ : Store) : ACalls Tryd.prog 126 [.agg (encGValueValue a0)] σ (fun r' σ' => r' = anyV r ∧ σ' = σ) :=
 (encode_kept.ok a0 r h).c σ
def vint_Put.l9 : Nat → List UInt8 → Int → Option (List UInt8)
  | 0, _, _ => none
  | k9 + 1, l3, x5 => (if 128 ≤ x5 then (room (List.length l3 + 1) 1).bind fun _u14 => ((vint_Put.l9 k9) (l3 ++ [UInt8.ofNat (Int.toNat (IntKind.u8.wrap ((BitVec.toNat (BitVec.ofInt 8 (IntKind.u8.wrap x5) ||| BitVec.ofInt 8 128) : Nat) : Int)))]) (Int.fdiv x5 (2 ^ (min (Int.toNat 7) 64)))) else (room (List.length l3 + 1) 1).bind fun _u18 => some (l3 ++ [UInt8.ofNat (Int.toNat (IntKind.u8.wrap x5))]))
def vint_Put (a0 : List UInt8) (a1 : Int) : Option (List UInt8) :=
  (if 128 ≤ a1 then (room (List.length a0 + 1) 1).bind fun _u24 => (vint_Put.l9 rounds (a0 ++ [UInt8.ofNat (Int.toNat (IntKind.u8.wrap ((BitVec.toNat (BitVec.ofInt 8 (IntKind.u8.wrap a1) ||| BitVec.ofInt 8 128) : Nat) : Int)))]) (Int.fdiv a1 (2 ^ (min (Int.toNat 7) 64)))) else (room (List.length a0 + 1) 1).bind fun _u28 => some (a0 ++ [UInt8.ofNat (Int.toNat (IntKind.u8.wrap a1))]))
theorem vint_Put.own (a0 : List UInt8) (a1 : Int) (r : List UInt8) (h : vint_Put a0 a1 = some r) : ACalls Tryd.prog 38 [.ds true (List.flatMap encB a0) (List.length a0) false, .int .u64 a1] [] (fun r' σ' => r' = .os true 1 0 0 0 (List.length r) false ∧ σ' = [.cells 0 (List.flatMap encB r)]) := by
 refine ACalls.own0 (by simp only [push_cast]) ?_
 refine acalls_own (rs := [.tmp 4]) tok Tryd.func38 rfl Tryd.ntmps38 rfl Tryd.call38 (by simp) ?_
 refine awp_args [(0, .ds true (List.flatMap encB a0) (List.length a0) false), (1, .int .u64 a1)] ⟨rfl, rfl, trivial⟩ ?_
 unfold vint_Put at h
 refine rg tok [0, 1] fun K hK => ?_
 simp only [go_sem, reduceLT, reduceLeDiff, reduceEqDiff, reduceAdd, reduceMul, reduceSub, reduceIte, reduceCtorEq]
 refine hK _ _ ?_
 clear hK K
 have f1 := E35.sl_tight a0 .i64 .i64
 refine rg tok [0, 1] fun K hK => ?_
 simp only [go_sem, reduceLT, reduceLeDiff, reduceEqDiff, reduceAdd, reduceMul, reduceSub, reduceIte, reduceCtorEq, f1]
 refine hK _ _ ?_
 clear hK K
 refine awp_seq_k fun Z2 hZ2 => ?_
 refine awp_block ?_
 refine awp_loopS1 (fun m L τ => ∃ (k9 : Nat) (l3 : List UInt8) (x5 : Int) (v4 : Nat), m = 0 + k9 ∧ L = ([(0, .os true 1 0 v4 0 (List.length l3) false), (1, .int .u64 x5)] : List (Nat × AV)) ∧ τ = ([.cells v4 (List.flatMap encB l3)] : Store) ∧ vint_Put.l9 k9 l3 x5 = some r) (rounds + 1) ?_ ?_
 · skip
   refine awp_seq_k fun Z20 hZ20 => ?_
   refine rg tok [0, 1, 12] fun K hK => ?_
   simp only [go_sem, reduceLT, reduceLeDiff, reduceEqDiff, reduceAdd, reduceMul, reduceSub, reduceIte, reduceCtorEq, evEq]
   refine hK _ _ ?_
   clear hK K
   refine awp_if rfl (fun hc21 => ?_) (fun hc21 => ?_)
   · skip
     rw [if_pos hc21] at h
     have t22 := eq_true hc21
     refine awp_skip ?_
     refine hZ20 _ _ ?_
     refine awp_block ?_
     have f23 := conv_int (T := tab) (src := 85) (dst := 5) rfl rfl rfl
     obtain ⟨_u24, hu24, h⟩ := bind_some h
     have gu24 := room_some hu24
     have f25 := app_tight E35.len a0 (m := 1) (by decide)
     refine rg tok [0, 1] fun K hK => ?_
     simp only [go_sem, reduceLT, reduceLeDiff, reduceEqDiff, reduceAdd, reduceMul, reduceSub, reduceIte, reduceCtorEq, evEq, evBuildSlice, zeroRun, List.range_succ, List.range_zero, Nat.zero_le, true_and, Nat.reduceMod, evAppend, lenOfAV, encB, t22, f23, gu24, f25, srcCells_o, List.all_nil, List.all_cons, AV.one, Bool.and_self, Bool.and_true, gt_iff_lt, setI_length, List.flatMap_append, List.flatMap_cons, List.flatMap_nil, List.append_nil, List.nil_append, List.length_append, List.length_cons, List.length_nil, Nat.zero_add, List.append_assoc, List.cons_append]
     refine hK _ _ ?_
     clear hK K
     refine awp_tellS (L := [(0, .os true 1 1 0 0 (List.length (a0 ++ [UInt8.ofNat (Int.toNat (IntKind.u8.wrap ((BitVec.toNat (BitVec.ofInt 8 (IntKind.u8.wrap a1) ||| BitVec.ofInt 8 128) : Nat) : Int)))])) false), (1, .int .u64 a1)]) (τ := [.cells 0 [.int .u8 (IntKind.u8.wrap ((BitVec.toNat (BitVec.ofInt 8 (IntKind.u8.wrap a1) ||| BitVec.ofInt 8 128) : Nat) : Int))], .cells 0 (List.flatMap encB (a0 ++ [UInt8.ofNat (Int.toNat (IntKind.u8.wrap ((BitVec.toNat (BitVec.ofInt 8 (IntKind.u8.wrap a1) ||| BitVec.ofInt 8 128) : Nat) : Int)))]))]) (.same (by first | exact ⟨rfl, rfl, trivial⟩ | rfl | (simp only [go_sem, reduceLT, reduceLeDiff, reduceEqDiff, reduceAdd, reduceMul, reduceSub, reduceIte, reduceCtorEq, Fits, encB, encI, encS, encK, setI_length, List.flatMap_append, List.flatMap_cons, List.flatMap_nil, List.append_nil, List.nil_append, List.length_append, List.length_cons, List.length_nil, Nat.zero_add, List.append_assoc, List.cons_append, Nat.add_assoc, u8_wrap, and_self] <;> rfl)) (by first | exact ⟨rfl, rfl, trivial⟩ | rfl | (simp only [go_sem, reduceLT, reduceLeDiff, reduceEqDiff, reduceAdd, reduceMul, reduceSub, reduceIte, reduceCtorEq, Fits, encB, encI, encS, encK, setI_length, List.flatMap_append, List.flatMap_cons, List.flatMap_nil, List.append_nil, List.nil_append, List.length_append, List.length_cons, List.length_nil, Nat.zero_add, List.append_assoc, List.cons_append, Nat.add_assoc, u8_wrap, and_self] <;> rfl))) ?_
     refine rgE tok [0, 1] fun K hK => ?_
     simp only [go_sem, reduceLT, reduceLeDiff, reduceEqDiff, reduceAdd, reduceMul, reduceSub, reduceIte, reduceCtorEq, evEq, t22, evShift, Int.reduceLT]
     refine hK _ _ ?_
     clear hK K
     exact ⟨_, _, _, (Nat.lt_succ_of_le (Nat.le_of_eq (Nat.zero_add rounds))), ⟨rounds, a0 ++ [UInt8.ofNat (Int.toNat (IntKind.u8.wrap ((BitVec.toNat (BitVec.ofInt 8 (IntKind.u8.wrap a1) ||| BitVec.ofInt 8 128) : Nat) : Int)))], Int.fdiv a1 (2 ^ (min (Int.toNat 7) 64)), 0, rfl, rfl, rfl, h⟩, (.t [1] false)⟩
   · skip
     rw [if_neg hc21] at h
     have t26 := eq_false hc21
     refine awp_exit ?_
     refine hZ2 _ _ ?_
     have f27 := conv_int (T := tab) (src := 85) (dst := 5) rfl rfl rfl
     obtain ⟨_u28, hu28, h⟩ := bind_some h
     have gu28 := room_some hu28
     have f29 := app_tight E35.len a0 (m := 1) (by decide)
     refine rg tok [4] fun K hK => ?_
     simp only [go_sem, reduceLT, reduceLeDiff, reduceEqDiff, reduceAdd, reduceMul, reduceSub, reduceIte, reduceCtorEq, evBuildSlice, zeroRun, List.range_succ, List.range_zero, Nat.zero_le, true_and, Nat.reduceMod, evAppend, lenOfAV, encB, t26, f27, gu28, f29, srcCells_o, List.all_nil, List.all_cons, AV.one, Bool.and_self, Bool.and_true, gt_iff_lt, setI_length, List.flatMap_append, List.flatMap_cons, List.flatMap_nil, List.append_nil, List.nil_append, List.length_append, List.length_cons, List.length_nil, Nat.zero_add, List.append_assoc, List.cons_append]
     refine hK _ _ ?_
     clear hK K
     refine awp_tellS (L := [(4, .os true 1 1 0 0 (List.length (a0 ++ [UInt8.ofNat (Int.toNat (IntKind.u8.wrap a1))])) false)]) (τ := [.cells 0 [.int .u8 (IntKind.u8.wrap a1)], .cells 0 (List.flatMap encB (a0 ++ [UInt8.ofNat (Int.toNat (IntKind.u8.wrap a1))]))]) (.same (by first | exact ⟨rfl, trivial⟩ | rfl | (simp only [go_sem, reduceLT, reduceLeDiff, reduceEqDiff, reduceAdd, reduceMul, reduceSub, reduceIte, reduceCtorEq, Fits, encB, encI, encS, encK, setI_length, List.flatMap_append, List.flatMap_cons, List.flatMap_nil, List.append_nil, List.nil_append, List.length_append, List.length_cons, List.length_nil, Nat.zero_add, List.append_assoc, List.cons_append, Nat.add_assoc, u8_wrap, and_self] <;> rfl)) (by first | exact ⟨rfl, trivial⟩ | rfl | (simp only [go_sem, reduceLT, reduceLeDiff, reduceEqDiff, reduceAdd, reduceMul, reduceSub, reduceIte, reduceCtorEq, Fits, encB, encI, encS, encK, setI_length, List.flatMap_append, List.flatMap_cons, List.flatMap_nil, List.append_nil, List.nil_append, List.length_append, List.length_cons, List.length_nil, Nat.zero_add, List.append_assoc, List.cons_append, Nat.add_assoc, u8_wrap, and_self] <;> rfl))) ?_
     refine awp_ret ?_
     obtain rfl := Option.some.inj h
     simp only [retQ, resAll, resOne, resAV, exists_eq_left', go_sem, reduceLT, reduceLeDiff, reduceEqDiff, reduceAdd, reduceMul, reduceSub, reduceIte, reduceCtorEq]
     refine ⟨1, 0, by simp, ?_, ?_⟩
     · first | rfl | (simp only [go_sem, reduceLT, reduceLeDiff, reduceEqDiff, reduceAdd, reduceMul, reduceSub, reduceIte, reduceCtorEq, push_cast, if_true, List.drop_zero, Nat.zero_add, List.map_cons, List.map_nil, List.map_append, Bool.or_true, Bool.or_false, Bool.and_true, Bool.and_false, Bool.not_true, Bool.not_false, tellL_all] <;> rfl)
     · first | rfl | (simp only [go_sem, reduceLT, reduceLeDiff, reduceEqDiff, reduceAdd, reduceMul, reduceSub, reduceIte, reduceCtorEq, push_cast, if_true, List.drop_zero, Nat.zero_add, List.map_cons, List.map_nil, List.map_append, Bool.or_true, Bool.or_false, Bool.and_true, Bool.and_false, Bool.not_true, Bool.not_false, tellL_all] <;> rfl)
 · skip
   clear h
   rintro m L τ ⟨k9, l3, x5, v4, rfl, rfl, rfl, h⟩
   rcases k9 with _ | k9
   · cases h
   · simp only [vint_Put.l9] at h
     refine awp_seq_k fun Z10 hZ10 => ?_
     refine rg tok [0, 1, 12] fun K hK => ?_
     simp only [go_sem, reduceLT, reduceLeDiff, reduceEqDiff, reduceAdd, reduceMul, reduceSub, reduceIte, reduceCtorEq, evEq]
     refine hK _ _ ?_
     clear hK K
     refine awp_if rfl (fun hc11 => ?_) (fun hc11 => ?_)
     · skip
       rw [if_pos hc11] at h
       have t12 := eq_true hc11
       refine awp_skip ?_
       refine hZ10 _ _ ?_
       refine awp_block ?_
       have f13 := conv_int (T := tab) (src := 85) (dst := 5) rfl rfl rfl
       obtain ⟨_u14, hu14, h⟩ := bind_some h
       have gu14 := room_some hu14
       have f15 := (enc_length E35.len l3)
       refine rg tok [0, 1] fun K hK => ?_
       simp only [go_sem, reduceLT, reduceLeDiff, reduceEqDiff, reduceAdd, reduceMul, reduceSub, reduceIte, reduceCtorEq, evEq, evBuildSlice, zeroRun, List.range_succ, List.range_zero, Nat.zero_le, true_and, Nat.reduceMod, evAppend, evAppendTo, lenOfAV, encB, t12, f13, gu14, f15, srcCells_o, List.all_nil, List.all_cons, AV.one, Bool.and_self, Bool.and_true, gt_iff_lt, setI_length, List.flatMap_append, List.flatMap_cons, List.flatMap_nil, List.append_nil, List.nil_append, List.length_append, List.length_cons, List.length_nil, Nat.zero_add, List.append_assoc, List.cons_append]
       refine hK _ _ ?_
       clear hK K
       refine awp_tellS (L := [(0, .os true 1 0 (v4 + 1) 0 (List.length (l3 ++ [UInt8.ofNat (Int.toNat (IntKind.u8.wrap ((BitVec.toNat (BitVec.ofInt 8 (IntKind.u8.wrap x5) ||| BitVec.ofInt 8 128) : Nat) : Int)))])) false), (1, .int .u64 x5)]) (τ := [.cells (v4 + 1) (List.flatMap encB (l3 ++ [UInt8.ofNat (Int.toNat (IntKind.u8.wrap ((BitVec.toNat (BitVec.ofInt 8 (IntKind.u8.wrap x5) ||| BitVec.ofInt 8 128) : Nat) : Int)))])), .cells 0 [.int .u8 (IntKind.u8.wrap ((BitVec.toNat (BitVec.ofInt 8 (IntKind.u8.wrap x5) ||| BitVec.ofInt 8 128) : Nat) : Int))]]) (.same (by first | exact ⟨rfl, rfl, trivial⟩ | rfl | (simp only [go_sem, reduceLT, reduceLeDiff, reduceEqDiff, reduceAdd, reduceMul, reduceSub, reduceIte, reduceCtorEq, Fits, encB, encI, encS, encK, setI_length, List.flatMap_append, List.flatMap_cons, List.flatMap_nil, List.append_nil, List.nil_append, List.length_append, List.length_cons, List.length_nil, Nat.zero_add, List.append_assoc, List.cons_append, Nat.add_assoc, u8_wrap, and_self] <;> rfl)) (by first | exact ⟨rfl, rfl, trivial⟩ | rfl | (simp only [go_sem, reduceLT, reduceLeDiff, reduceEqDiff, reduceAdd, reduceMul, reduceSub, reduceIte, reduceCtorEq, Fits, encB, encI, encS, encK, setI_length, List.flatMap_append, List.flatMap_cons, List.flatMap_nil, List.append_nil, List.nil_append, List.length_append, List.length_cons, List.length_nil, Nat.zero_add, List.append_assoc, List.cons_append, Nat.add_assoc, u8_wrap, and_self] <;> rfl))) ?_
       refine rgE tok [0, 1] fun K hK => ?_
       simp only [go_sem, reduceLT, reduceLeDiff, reduceEqDiff, reduceAdd, reduceMul, reduceSub, reduceIte, reduceCtorEq, evEq, t12, evShift, Int.reduceLT]
       refine hK _ _ ?_
       clear hK K
       exact ⟨_, _, _, Nat.lt_succ_self (0 + k9), ⟨k9, l3 ++ [UInt8.ofNat (Int.toNat (IntKind.u8.wrap ((BitVec.toNat (BitVec.ofInt 8 (IntKind.u8.wrap x5) ||| BitVec.ofInt 8 128) : Nat) : Int)))], Int.fdiv x5 (2 ^ (min (Int.toNat 7) 64)), v4 + 1, rfl, rfl, rfl, h⟩, (.t [0] false)⟩
     · skip
       rw [if_neg hc11] at h
       have t16 := eq_false hc11
       refine awp_exit ?_
       refine hZ2 _ _ ?_
       have f17 := conv_int (T := tab) (src := 85) (dst := 5) rfl rfl rfl
       obtain ⟨_u18, hu18, h⟩ := bind_some h
       have gu18 := room_some hu18
       have f19 := (enc_length E35.len l3)
       refine rg tok [4] fun K hK => ?_
       simp only [go_sem, reduceLT, reduceLeDiff, reduceEqDiff, reduceAdd, reduceMul, reduceSub, reduceIte, reduceCtorEq, evBuildSlice, zeroRun, List.range_succ, List.range_zero, Nat.zero_le, true_and, Nat.reduceMod, evAppend, evAppendTo, lenOfAV, encB, t16, f17, gu18, f19, srcCells_o, List.all_nil, List.all_cons, AV.one, Bool.and_self, Bool.and_true, gt_iff_lt, setI_length, List.flatMap_append, List.flatMap_cons, List.flatMap_nil, List.append_nil, List.nil_append, List.length_append, List.length_cons, List.length_nil, Nat.zero_add, List.append_assoc, List.cons_append]
       refine hK _ _ ?_
       clear hK K
       refine awp_tellS (L := [(4, .os true 1 0 (v4 + 1) 0 (List.length (l3 ++ [UInt8.ofNat (Int.toNat (IntKind.u8.wrap x5))])) false)]) (τ := [.cells (v4 + 1) (List.flatMap encB (l3 ++ [UInt8.ofNat (Int.toNat (IntKind.u8.wrap x5))])), .cells 0 [.int .u8 (IntKind.u8.wrap x5)]]) (.same (by first | exact ⟨rfl, trivial⟩ | rfl | (simp only [go_sem, reduceLT, reduceLeDiff, reduceEqDiff, reduceAdd, reduceMul, reduceSub, reduceIte, reduceCtorEq, Fits, encB, encI, encS, encK, setI_length, List.flatMap_append, List.flatMap_cons, List.flatMap_nil, List.append_nil, List.nil_append, List.length_append, List.length_cons, List.length_nil, Nat.zero_add, List.append_assoc, List.cons_append, Nat.add_assoc, u8_wrap, and_self] <;> rfl)) (by first | exact ⟨rfl, trivial⟩ | rfl | (simp only [go_sem, reduceLT, reduceLeDiff, reduceEqDiff, reduceAdd, reduceMul, reduceSub, reduceIte, reduceCtorEq, Fits, encB, encI, encS, encK, setI_length, List.flatMap_append, List.flatMap_cons, List.flatMap_nil, List.append_nil, List.nil_append, List.length_append, List.length_cons, List.length_nil, Nat.zero_add, List.append_assoc, List.cons_append, Nat.add_assoc, u8_wrap, and_self] <;> rfl))) ?_
       refine awp_ret ?_
       obtain rfl := Option.some.inj h
       simp only [retQ, resAll, resOne, resAV, exists_eq_left', go_sem, reduceLT, reduceLeDiff, reduceEqDiff, reduceAdd, reduceMul, reduceSub, reduceIte, reduceCtorEq]
       refine ⟨0, v4 + 1, by simp, ?_, ?_⟩
       · first | rfl | (simp only [go_sem, reduceLT, reduceLeDiff, reduceEqDiff, reduceAdd, reduceMul, reduceSub, reduceIte, reduceCtorEq, push_cast, if_true, List.drop_zero, Nat.zero_add, List.map_cons, List.map_nil, List.map_append, Bool.or_true, Bool.or_false, Bool.and_true, Bool.and_false, Bool.not_true, Bool.not_false, tellL_all] <;> rfl)
       · first | rfl | (simp only [go_sem, reduceLT, reduceLeDiff, reduceEqDiff, reduceAdd, reduceMul, reduceSub, reduceIte, reduceCtorEq, push_cast, if_true, List.drop_zero, Nat.zero_add, List.map_cons, List.map_nil, List.map_append, Bool.or_true, Bool.or_false, Bool.and_true, Bool.and_false, Bool.not_true, Bool.not_false, tellL_all] <;> rfl)
theorem vint_Put.ok (a0 : List UInt8) (a1 : Int) (r : List UInt8) (h : vint_Put a0 a1 = some r) : ACalls Tryd.prog 38 [.ds true (List.flatMap encB a0) (List.length a0) false, .int .u64 a1] [] (fun r' _ => r' = .ds true (List.flatMap encB r) (List.length r) false) :=
 (vint_Put.own a0 a1 r h).ownData (enc_length E35.len r) (by simp only [push_cast])
theorem vint_Put.ev (a0 : List UInt8) (a1 : Int) (r : List UInt8) (h : vint_Put a0 a1 = some r) (σ : Store) : ACalls Tryd.prog 38 [.ds true (List.flatMap encB a0) (List.length a0) false, .int .u64 a1] σ (fun r' σ' => r' = .ds true (List.flatMap encB r) (List.length r) false ∧ σ' = σ) :=
 (vint_Put.ok a0 a1 r h).c σ
def vint_Zig (a0 : Int) : Int :=
  IntKind.u64.wrap ((BitVec.toNat (BitVec.ofInt 64 (IntKind.u64.wrap ((IntKind.u64.wrap a0) * 2 ^ (min (Int.toNat 1) 64))) ^^^ BitVec.ofInt 64 (IntKind.u64.wrap (Int.fdiv a0 (2 ^ (min (Int.toNat 63) 64))))) : Nat) : Int)
theorem vint_Zig.ok (a0 : Int) (r : Int) (h : vint_Zig a0 = r) : ACalls Tryd.prog 39 [.int .i64 a0] [] (fun r' _ => r' = .int .u64 r) := by
 refine acalls_pure (rs := [.tmp 2]) tok Tryd.func39 rfl Tryd.ntmps39 rfl Tryd.call39 (by simp) ?_
 refine awp_args [(0, .int .i64 a0)] ⟨rfl, trivial⟩ ?_
 unfold vint_Zig at h
 refine rg tok [0] fun K hK => ?_
 simp only [go_sem, reduceLT, reduceLeDiff, reduceEqDiff, reduceAdd, reduceMul, reduceSub, reduceIte, reduceCtorEq]
 refine hK _ _ ?_
 clear hK K
 have f1 := conv_int (T := tab) (src := 3) (dst := 85) rfl rfl rfl
 have f2 := conv_int (T := tab) (src := 3) (dst := 85) rfl rfl rfl
 refine rg tok [2] fun K hK => ?_
 simp only [go_sem, reduceLT, reduceLeDiff, reduceEqDiff, reduceAdd, reduceMul, reduceSub, reduceIte, reduceCtorEq, evEq, f1, f2, evShift, Int.reduceLT]
 refine hK _ _ ?_
 clear hK K
 refine awp_ret ?_
 obtain rfl := h
 exact retA
theorem vint_Zig.ev (a0 : Int) (r : Int) (h : vint_Zig a0 = r) (σ : Store) : ACalls Tryd.prog 39 [.int .i64 a0] σ (fun r' σ' => r' = .int .u64 r ∧ σ' = σ) :=
 (vint_Zig.ok a0 r h).c σ
def wire_Put (a0 : List UInt8) (a1 : GRaw) : Option (List UInt8 × Bool) :=
  bnd (wire_Check a1) fun r2 => (if (!r2) = true then some (a0, false) else (vint_Put a0 (IntKind.u64.wrap (IntKind.i64.wrap ((IntKind.i64.wrap (2 * a1.fTag)) + a1.fWire)))).bind fun r5 => (if a1.fWire = 0 then bnd (vint_Zig a1.fN) fun r9 => (vint_Put r5 r9).bind fun r10 => some (r10, true) else (vint_Put r5 (IntKind.u64.wrap (List.length a1.fB : Int))).bind fun r13 => (room (List.length r13 + List.length a1.fB) 1).bind fun _u14 => some (r13 ++ a1.fB, true)))
theorem wire_Put.ok (a0 : List UInt8) (a1 : GRaw) (r : List UInt8 × Bool) (h : wire_Put a0 a1 = some r) : ACalls Tryd.prog 19 [.ds true (List.flatMap encB a0) (List.length a0) false, .agg (encGRaw a1)] [] (fun r' _ => r' = .tup [.ds true (List.flatMap encB r.1) (List.length r.1) false, .bool r.2]) := by
 refine acalls_pure (rs := [.tmp 4, .tmp 5]) tok Tryd.func19 rfl Tryd.ntmps19 rfl Tryd.call19 (by simp) ?_
 refine awp_args [(0, .ds true (List.flatMap encB a0) (List.length a0) false), (1, .agg (encGRaw a1))] ⟨rfl, rfl, trivial⟩ ?_
 unfold wire_Put at h
 refine rg tok [0, 3] fun K hK => ?_
 simp only [go_sem, reduceLT, reduceLeDiff, reduceEqDiff, reduceAdd, reduceMul, reduceSub, reduceIte, reduceCtorEq, encGRaw]
 refine hK _ _ ?_
 clear hK K
 refine awp_seq_k fun Z1 hZ1 => ?_
 refine rc [0, 3, 9] fun K hK => ?_
 obtain ⟨r2, hr2, h⟩ := bnd_elim h
 refine opsRunN tok 1 ?_
 simp only [go_sem, reduceLT, reduceLeDiff, reduceEqDiff, reduceAdd, reduceMul, reduceSub, reduceIte, reduceCtorEq, encGRaw]
 refine opsWp_callD rfl rfl rfl (wire_Check.ev a1 r2 hr2 _) ?_
 rintro _ _ ⟨rfl, rfl⟩
 refine opsRunN tok 1 ?_
 simp only [go_sem, reduceLT, reduceLeDiff, reduceEqDiff, reduceAdd, reduceMul, reduceSub, reduceIte, reduceCtorEq, encGRaw]
 refine opsWp_nil ?_
 simp only [thenQ_normal, keepS_cons, keepS_nil, updO, upd, reduceEqDiff, reduceIte, fs_cons, fs_nil]
 refine hK _ _ ?_
 clear hK K
 refine awp_cond (b := (!r2)) rfl (fun hc3 => ?_) (fun hc3 => ?_)
 · skip
   rw [if_pos hc3] at h
   refine rg tok [4, 5] fun K hK => ?_
   simp only [go_sem, reduceLT, reduceLeDiff, reduceEqDiff, reduceAdd, reduceMul, reduceSub, reduceIte, reduceCtorEq]
   refine hK _ _ ?_
   clear hK K
   refine awp_ret ?_
   obtain rfl := Option.some.inj h
   exact retA
 · skip
   rw [if_F hc3] at h
   refine awp_skip ?_
   refine hZ1 _ _ ?_
   refine rc [3, 6] fun K hK => ?_
   have f4 := conv_int (T := tab) (src := 3) (dst := 85) rfl rfl rfl
   obtain ⟨r5, hr5, h⟩ := bind_some h
   refine opsRunN tok 8 ?_
   simp only [go_sem, reduceLT, reduceLeDiff, reduceEqDiff, reduceAdd, reduceMul, reduceSub, reduceIte, reduceCtorEq, evEq, f4]
   refine opsWp_callD rfl rfl rfl (vint_Put.ev a0 (IntKind.u64.wrap (IntKind.i64.wrap ((IntKind.i64.wrap (2 * a1.fTag)) + a1.fWire))) r5 hr5 _) ?_
   rintro _ _ ⟨rfl, rfl⟩
   refine opsRunN tok 1 ?_
   simp only [go_sem, reduceLT, reduceLeDiff, reduceEqDiff, reduceAdd, reduceMul, reduceSub, reduceIte, reduceCtorEq]
   refine opsWp_nil ?_
   simp only [thenQ_normal, keepS_cons, keepS_nil, updO, upd, reduceEqDiff, reduceIte, fs_cons, fs_nil]
   refine hK _ _ ?_
   clear hK K
   refine awp_seq_k fun Z6 hZ6 => ?_
   refine rg tok [3, 6, 22] fun K hK => ?_
   simp only [go_sem, reduceLT, reduceLeDiff, reduceEqDiff, reduceAdd, reduceMul, reduceSub, reduceIte, reduceCtorEq, evEq]
   refine hK _ _ ?_
   clear hK K
   refine awp_if rfl (fun hc7 => ?_) (fun hc7 => ?_)
   · skip
     rw [if_pos hc7] at h
     have t8 := eq_true hc7
     refine rc [4, 5] fun K hK => ?_
     obtain ⟨r9, hr9, h⟩ := bnd_elim h
     refine opsRunN tok 3 ?_
     simp only [go_sem, reduceLT, reduceLeDiff, reduceEqDiff, reduceAdd, reduceMul, reduceSub, reduceIte, reduceCtorEq, t8]
     refine opsWp_callD rfl rfl rfl (vint_Zig.ev a1.fN r9 hr9 _) ?_
     rintro _ _ ⟨rfl, rfl⟩
     obtain ⟨r10, hr10, h⟩ := bind_some h
     refine opsWp_callD rfl rfl rfl (vint_Put.ev r5 r9 r10 hr10 _) ?_
     rintro _ _ ⟨rfl, rfl⟩
     refine opsRunN tok 2 ?_
     simp only [go_sem, reduceLT, reduceLeDiff, reduceEqDiff, reduceAdd, reduceMul, reduceSub, reduceIte, reduceCtorEq, t8]
     refine opsWp_nil ?_
     simp only [thenQ_normal, keepS_cons, keepS_nil, updO, upd, reduceEqDiff, reduceIte, fs_cons, fs_nil]
     refine hK _ _ ?_
     clear hK K
     refine awp_ret ?_
     obtain rfl := Option.some.inj h
     exact retA
   · skip
     rw [if_neg hc7] at h
     have t11 := eq_false hc7
     refine awp_skip ?_
     refine hZ6 _ _ ?_
     have f12 := conv_int (T := tab) (src := 3) (dst := 85) rfl rfl rfl
     obtain ⟨r13, hr13, h⟩ := bind_some h
     obtain ⟨_u14, hu14, h⟩ := bind_some h
     have gu14 := room_some hu14
     have f15 := (enc_length E35.len r13)
     refine rd [4, 5] fun K hK => ?_
     refine DW.start (T := tab) [.any, .any, .at [], .at [], .at [], .eff, .any, .own 1 [], .eff, .any, .any] [(1, [])] ?_
     refine DW.runN tok 5 ?_
     simp only [go_sem, reduceLT, reduceLeDiff, reduceEqDiff, reduceAdd, reduceMul, reduceSub, reduceIte, reduceCtorEq, encB, t11, f12, gu14, f15, srcCells_s, bys_flatMap, bys_length, ones_all, List.all_nil, List.all_cons, AV.one, Bool.and_self, Bool.and_true, gt_iff_lt, setI_length, List.flatMap_append, List.flatMap_cons, List.flatMap_nil, List.append_nil, List.nil_append, List.length_append, List.length_cons, List.length_nil, Nat.zero_add, List.append_assoc, List.cons_append]
     refine DW.callS rfl rfl rfl (@id (ACalls Tryd.prog 38 [.ds true (List.flatMap encB r5) (List.length r5) false, .int .u64 (IntKind.u64.wrap (List.length a1.fB : Int))] [.cells 0 [.int .i64 a1.fTag, .int .i64 a1.fWire, .int .i64 a1.fN, .str a1.fB]] (fun r' σ' => r' = .os true 1 1 0 0 (List.length r13) false ∧ σ' = [.cells 0 [.int .i64 a1.fTag, .int .i64 a1.fWire, .int .i64 a1.fN, .str a1.fB], .cells 0 (List.flatMap encB r13)])) ((vint_Put.own r5 (IntKind.u64.wrap (List.length a1.fB : Int)) r13 hr13).ownAt0 (by simp only [push_cast]) (by simp only [push_cast]) _)) (agrs_Agrs (by simp only [go_sem, reduceLT, reduceLeDiff, reduceEqDiff, reduceAdd, reduceMul, reduceSub, reduceIte, reduceCtorEq])) ?_
     refine DW.runN tok 5 ?_
     simp only [go_sem, reduceLT, reduceLeDiff, reduceEqDiff, reduceAdd, reduceMul, reduceSub, reduceIte, reduceCtorEq, evAppend, evAppendTo, lenOfAV, true_and, encB, t11, f12, gu14, f15, srcCells_s, bys_flatMap, bys_length, ones_all, List.all_nil, List.all_cons, AV.one, Bool.and_self, Bool.and_true, gt_iff_lt, setI_length, List.flatMap_append, List.flatMap_cons, List.flatMap_nil, List.append_nil, List.nil_append, List.length_append, List.length_cons, List.length_nil, Nat.zero_add, List.append_assoc, List.cons_append]
     refine DW.fin tok (by decide +kernel) rfl ?_
     simp only [thenQ_normal, keepS_cons, keepS_nil, updO, upd, reduceEqDiff, reduceIte, fs_cons, fs_nil]
     refine hK _ _ ?_
     clear hK K
     refine awp_tellS (L := [(4, .os true 1 1 (0 + 1) 0 (List.length (r13 ++ a1.fB)) false), (5, .bool true)]) (τ := [.cells 0 [.int .i64 a1.fTag, .int .i64 a1.fWire, .int .i64 a1.fN, .str a1.fB], .cells (0 + 1) (List.flatMap encB (r13 ++ a1.fB))]) .s ?_
     refine awp_ret ?_
     obtain rfl := Option.some.inj h
     exact retA
theorem wire_Put.ev (a0 : List UInt8) (a1 : GRaw) (r : List UInt8 × Bool) (h : wire_Put a0 a1 = some r) (σ : Store) : ACalls Tryd.prog 19 [.ds true (List.flatMap encB a0) (List.length a0) false, .agg (encGRaw a1)] σ (fun r' σ' => r' = .tup [.ds true (List.flatMap encB r.1) (List.length r.1) false, .bool r.2] ∧ σ' = σ) :=
 (wire_Put.ok a0 a1 r h).c σ
def wire_PutAll.l11 : List GRaw → Int → List UInt8 → Option (List UInt8 × Int)
  | [], x8, x7 => some (x7, 0)
  | y11 :: q11, x8, x7 => (wire_Put x7 y11).bind fun r17 => (if 4096 < (List.length r17.1 : Int) then some (([] : List UInt8), 4) else ((wire_PutAll.l11 q11) (x8 + 1) r17.1))
def wire_PutAll.l4 (a0 : List GRaw) : List GRaw → Int → Option (List UInt8 × Int)
  | [], x2 => (wire_PutAll.l11 a0 0 ([] : List UInt8))
  | y4 :: q4, x2 => bnd (wire_Check y4) fun r25 => (if (!r25) = true then some (([] : List UInt8), 1) else ((wire_PutAll.l4 a0 q4) (x2 + 1)))
def wire_PutAll (a0 : List GRaw) : Option (List UInt8 × Int) :=
  (wire_PutAll.l4 a0 a0 0)
theorem wire_PutAll.ok (a0 : List GRaw) (r : List UInt8 × Int) (h : wire_PutAll a0 = some r) : ACalls Tryd.prog 11 [.ds true (List.flatMap encGRaw a0) (List.length a0) false] [] (fun r' _ => r' = .tup [.ds true (List.flatMap encB r.1) (List.length r.1) false, .int .i64 r.2]) := by
 refine acalls_pure (rs := [.tmp 2, .tmp 3]) tok Tryd.func11 rfl Tryd.ntmps11 rfl Tryd.call11 (by simp) ?_
 refine awp_args [(0, .ds true (List.flatMap encGRaw a0) (List.length a0) false)] ⟨rfl, trivial⟩ ?_
 unfold wire_PutAll at h
 refine rg tok [0] fun K hK => ?_
 simp only [go_sem, reduceLT, reduceLeDiff, reduceEqDiff, reduceAdd, reduceMul, reduceSub, reduceIte, reduceCtorEq]
 refine hK _ _ ?_
 clear hK K
 refine awp_seq_k fun Z1 hZ1 => ?_
 refine rg tok [0, 9, 10, 11] fun K hK => ?_
 simp only [go_sem, reduceLT, reduceLeDiff, reduceEqDiff, reduceAdd, reduceMul, reduceSub, reduceIte, reduceCtorEq]
 refine hK _ _ ?_
 clear hK K
 refine awp_block ?_
 refine awp_deep 0 fun hb4 => ?_
 replace hb4 : List.length a0 ≤ 9223372036854775807 := hb4.1
 refine awp_loopS (fun m L τ => ∃ (p4 q4 : List GRaw) (x2 : Int), m = List.length q4 ∧ L = ([(0, .ds true (List.flatMap encGRaw a0) (List.length a0) false), (9, .ds true (List.flatMap encGRaw a0) (List.length a0) false), (10, .int .i64 (List.length a0 : Int)), (11, .int .i64 x2)] : List (Nat × AV)) ∧ τ = ([] : Store) ∧ a0 = p4 ++ q4 ∧ x2 = (List.length p4 : Int) ∧ wire_PutAll.l4 a0 q4 x2 = some r) _ ⟨[], a0, 0, rfl, rfl, rfl, rfl, rfl, h⟩ .s ?_
 rintro m L τ ⟨p4, q4, x2, rfl, rfl, rfl, hE4, hi4, h⟩
 rcases q4 with _ | ⟨y4, q4⟩
 · have hz4 := zip_nil hE4 hi4
   simp only [wire_PutAll.l4] at h
   refine rg tok [0, 9, 10, 11, 12] fun K hK => ?_
   simp only [go_sem, reduceLT, reduceLeDiff, reduceEqDiff, reduceAdd, reduceMul, reduceSub, reduceIte, reduceCtorEq, evEq, hz4]
   refine hK _ _ ?_
   clear hK K
   refine awp_seq_k fun Z5 hZ5 => ?_
   refine awp_cond_f rfl ?_
   refine awp_exit ?_
   refine hZ1 _ _ ?_
   refine rg tok [0, 6] fun K hK => ?_
   simp only [go_sem, reduceLT, reduceLeDiff, reduceEqDiff, reduceAdd, reduceMul, reduceSub, reduceIte, reduceCtorEq, hz4]
   refine hK _ _ ?_
   clear hK K
   refine awp_seq_k fun Z6 hZ6 => ?_
   refine rg tok [6, 19, 20, 21] fun K hK => ?_
   simp only [go_sem, reduceLT, reduceLeDiff, reduceEqDiff, reduceAdd, reduceMul, reduceSub, reduceIte, reduceCtorEq, hz4]
   refine hK _ _ ?_
   clear hK K
   refine awp_block ?_
   refine awp_deep 19 fun hb11 => ?_
   replace hb11 : List.length a0 ≤ 9223372036854775807 := hb11.1
   refine awp_loopS (fun m L τ => ∃ (p11 q11 : List GRaw) (x8 : Int) (x7 : List UInt8), m = List.length q11 ∧ L = ([(6, .ds true (List.flatMap encB x7) (List.length x7) false), (19, .ds true (List.flatMap encGRaw a0) (List.length a0) false), (20, .int .i64 (List.length a0 : Int)), (21, .int .i64 x8)] : List (Nat × AV)) ∧ τ = ([] : Store) ∧ a0 = p11 ++ q11 ∧ x8 = (List.length p11 : Int) ∧ wire_PutAll.l11 q11 x8 x7 = some r) _ ⟨[], a0, 0, ([] : List UInt8), rfl, rfl, rfl, rfl, rfl, h⟩ (.t [] true) ?_
   rintro m L τ ⟨p11, q11, x8, x7, rfl, rfl, rfl, hE11, hi11, h⟩
   rcases q11 with _ | ⟨y11, q11⟩
   · have hz11 := zip_nil hE11 hi11
     simp only [wire_PutAll.l11] at h
     refine rg tok [6, 19, 20, 21, 22] fun K hK => ?_
     simp only [go_sem, reduceLT, reduceLeDiff, reduceEqDiff, reduceAdd, reduceMul, reduceSub, reduceIte, reduceCtorEq, evEq, hz4, hz11]
     refine hK _ _ ?_
     clear hK K
     refine awp_seq_k fun Z12 hZ12 => ?_
     refine awp_cond_f rfl ?_
     refine awp_exit ?_
     refine hZ6 _ _ ?_
     refine rg tok [2, 3] fun K hK => ?_
     simp only [go_sem, reduceLT, reduceLeDiff, reduceEqDiff, reduceAdd, reduceMul, reduceSub, reduceIte, reduceCtorEq, hz4, hz11]
     refine hK _ _ ?_
     clear hK K
     refine awp_ret ?_
     obtain rfl := Option.some.inj h
     exact retA
   · obtain ⟨hz11, hw11, hx11, hE'11, hi'11⟩ := zip_cons hE11 hi11 hb11
     simp only [wire_PutAll.l11] at h
     refine rg tok [6, 19, 20, 21, 22] fun K hK => ?_
     simp only [go_sem, reduceLT, reduceLeDiff, reduceEqDiff, reduceAdd, reduceMul, reduceSub, reduceIte, reduceCtorEq, evEq, hz4, hz11, hw11]
     refine hK _ _ ?_
     clear hK K
     refine awp_seq_k fun Z13 hZ13 => ?_
     refine awp_cond_t rfl ?_
     refine awp_skip ?_
     refine hZ13 _ _ ?_
     refine awp_seq_k fun Z14 hZ14 => ?_
     refine awp_block ?_
     have f15 := E22.idxS hx11
     have f16 := E22.loadS rfl rfl hx11
     refine rg tok [6, 8, 19, 20, 21] fun K hK => ?_
     simp only [go_sem, reduceLT, reduceLeDiff, reduceEqDiff, reduceAdd, reduceMul, reduceSub, reduceIte, reduceCtorEq, encGRaw, hz4, hz11, hw11, f15, f16]
     refine hK _ _ ?_
     clear hK K
     refine rc [6, 19, 20, 21] fun K hK => ?_
     obtain ⟨r17, hr17, h⟩ := bind_some h
     refine opsRunN tok 2 ?_
     simp only [go_sem, reduceLT, reduceLeDiff, reduceEqDiff, reduceAdd, reduceMul, reduceSub, reduceIte, reduceCtorEq, encGRaw, hz4, hz11, hw11]
     refine opsWp_callD rfl rfl rfl (wire_Put.ev x7 y11 r17 hr17 _) ?_
     rintro _ _ ⟨rfl, rfl⟩
     refine opsRunN tok 4 ?_
     simp only [go_sem, reduceLT, reduceLeDiff, reduceEqDiff, reduceAdd, reduceMul, reduceSub, reduceIte, reduceCtorEq, encGRaw, hz4, hz11, hw11]
     refine opsWp_nil ?_
     simp only [thenQ_normal, keepS_cons, keepS_nil, updO, upd, reduceEqDiff, reduceIte, fs_cons, fs_nil]
     refine hK _ _ ?_
     clear hK K
     refine rg tok [6, 19, 20, 21, 33] fun K hK => ?_
     simp only [go_sem, reduceLT, reduceLeDiff, reduceEqDiff, reduceAdd, reduceMul, reduceSub, reduceIte, reduceCtorEq, evEq, hz4, hz11, hw11]
     refine hK _ _ ?_
     clear hK K
     refine awp_if rfl (fun hc18 => ?_) (fun hc18 => ?_)
     · skip
       rw [if_pos hc18] at h
       have t19 := eq_true hc18
       refine rg tok [2, 3] fun K hK => ?_
       simp only [go_sem, reduceLT, reduceLeDiff, reduceEqDiff, reduceAdd, reduceMul, reduceSub, reduceIte, reduceCtorEq, hz4, hz11, hw11, t19]
       refine hK _ _ ?_
       clear hK K
       refine awp_ret ?_
       obtain rfl := Option.some.inj h
       exact retA
     · skip
       rw [if_neg hc18] at h
       have t20 := eq_false hc18
       refine awp_skip ?_
       refine hZ14 _ _ ?_
       refine rgE tok [6, 19, 20, 21] fun K hK => ?_
       simp only [go_sem, reduceLT, reduceLeDiff, reduceEqDiff, reduceAdd, reduceMul, reduceSub, reduceIte, reduceCtorEq, evEq, hz4, hz11, hw11, t20]
       refine hK _ _ ?_
       clear hK K
       exact ⟨_, _, _, Nat.lt_succ_self q11.length, ⟨p11 ++ [y11], q11, x8 + 1, r17.1, rfl, rfl, rfl, hE'11, hi'11, h⟩, (.t [] false)⟩
 · obtain ⟨hz4, hw4, hx4, hE'4, hi'4⟩ := zip_cons hE4 hi4 hb4
   simp only [wire_PutAll.l4] at h
   refine rg tok [0, 9, 10, 11, 12] fun K hK => ?_
   simp only [go_sem, reduceLT, reduceLeDiff, reduceEqDiff, reduceAdd, reduceMul, reduceSub, reduceIte, reduceCtorEq, evEq, hz4, hw4]
   refine hK _ _ ?_
   clear hK K
   refine awp_seq_k fun Z21 hZ21 => ?_
   refine awp_cond_t rfl ?_
   refine awp_skip ?_
   refine hZ21 _ _ ?_
   refine awp_seq_k fun Z22 hZ22 => ?_
   refine awp_block ?_
   have f23 := E22.idxS hx4
   have f24 := E22.loadS rfl rfl hx4
   refine rg tok [0, 5, 9, 10, 11] fun K hK => ?_
   simp only [go_sem, reduceLT, reduceLeDiff, reduceEqDiff, reduceAdd, reduceMul, reduceSub, reduceIte, reduceCtorEq, encGRaw, hz4, hw4, f23, f24]
   refine hK _ _ ?_
   clear hK K
   refine rc [0, 9, 10, 11, 17] fun K hK => ?_
   obtain ⟨r25, hr25, h⟩ := bnd_elim h
   refine opsRunN tok 1 ?_
   simp only [go_sem, reduceLT, reduceLeDiff, reduceEqDiff, reduceAdd, reduceMul, reduceSub, reduceIte, reduceCtorEq, encGRaw, hz4, hw4]
   refine opsWp_callD rfl rfl rfl (wire_Check.ev y4 r25 hr25 _) ?_
   rintro _ _ ⟨rfl, rfl⟩
   refine opsRunN tok 1 ?_
   simp only [go_sem, reduceLT, reduceLeDiff, reduceEqDiff, reduceAdd, reduceMul, reduceSub, reduceIte, reduceCtorEq, encGRaw, hz4, hw4]
   refine opsWp_nil ?_
   simp only [thenQ_normal, keepS_cons, keepS_nil, updO, upd, reduceEqDiff, reduceIte, fs_cons, fs_nil]
   refine hK _ _ ?_
   clear hK K
   refine awp_cond (b := (!r25)) rfl (fun hc26 => ?_) (fun hc26 => ?_)
   · skip
     rw [if_pos hc26] at h
     refine rg tok [2, 3] fun K hK => ?_
     simp only [go_sem, reduceLT, reduceLeDiff, reduceEqDiff, reduceAdd, reduceMul, reduceSub, reduceIte, reduceCtorEq, hz4, hw4]
     refine hK _ _ ?_
     clear hK K
     refine awp_ret ?_
     obtain rfl := Option.some.inj h
     exact retA
   · skip
     rw [if_F hc26] at h
     refine awp_skip ?_
     refine hZ22 _ _ ?_
     refine rgE tok [0, 9, 10, 11] fun K hK => ?_
     simp only [go_sem, reduceLT, reduceLeDiff, reduceEqDiff, reduceAdd, reduceMul, reduceSub, reduceIte, reduceCtorEq, evEq, hz4, hw4]
     refine hK _ _ ?_
     clear hK K
     exact ⟨_, _, _, Nat.lt_succ_self q4.length, ⟨p4 ++ [y4], q4, x2 + 1, rfl, rfl, rfl, hE'4, hi'4, h⟩, (.t [] false)⟩
theorem wire_PutAll.ev (a0 : List GRaw) (r : List UInt8 × Int) (h : wire_PutAll a0 = some r) (σ : Store) : ACalls Tryd.prog 11 [.ds true (List.flatMap encGRaw a0) (List.length a0) false] σ (fun r' σ' => r' = .tup [.ds true (List.flatMap encB r.1) (List.length r.1) false, .int .i64 r.2] ∧ σ' = σ) :=
 (wire_PutAll.ok a0 r h).c σ
def encode_bytes.body (self_encode_bytes : GValueNode → Option (List UInt8 × Int)) (self_encode_raw : Int → GValueValue → Option (GRaw × Int)) (self_encode_raws : GValueNode → Option (List GRaw × Int)) (a0 : GValueNode) : Option (List UInt8 × Int) :=
  (self_encode_raws a0).bind fun r1 => (if r1.2 = 0 then (wire_PutAll r1.1).bind fun r6 => some (r6.1, r6.2) else some (([] : List UInt8), r1.2))
theorem encode_bytes.step (self_encode_bytes : GValueNode → Option (List UInt8 × Int)) (self_encode_raw : Int → GValueValue → Option (GRaw × Int)) (self_encode_raws : GValueNode → Option (List GRaw × Int)) (ih_encode_bytes : ∀ (a0 : GValueNode) (r : List UInt8 × Int), self_encode_bytes a0 = some r → ACalls Tryd.prog 127 [.dp (encGValueNode a0) 0] [] (fun r' _ => r' = .tup [.ds true (List.flatMap encB r.1) (List.length r.1) false, .int .i64 r.2])) (ih_encode_raw : ∀ (a0 : Int) (a1 : GValueValue) (r : GRaw × Int), self_encode_raw a0 a1 = some r → ACalls Tryd.prog 107 [.int .i64 a0, .agg (encGValueValue a1)] [] (fun r' _ => r' = .tup [.agg (encGRaw r.1), .int .i64 r.2])) (ih_encode_raws : ∀ (a0 : GValueNode) (r : List GRaw × Int), self_encode_raws a0 = some r → ACalls Tryd.prog 75 [.dp (encGValueNode a0) 0] [] (fun r' _ => r' = .tup [.ds true (List.flatMap encGRaw r.1) (List.length r.1) false, .int .i64 r.2])) (a0 : GValueNode) (r : List UInt8 × Int) (h : encode_bytes.body self_encode_bytes self_encode_raw self_encode_raws a0 = some r) : ACalls Tryd.prog 127 [.dp (encGValueNode a0) 0] [] (fun r' _ => r' = .tup [.ds true (List.flatMap encB r.1) (List.length r.1) false, .int .i64 r.2]) := by
 have ev_encode_bytes := fun a0 r h σ => (ih_encode_bytes a0 r h).c σ
 have ev_encode_raw := fun a0 a1 r h σ => (ih_encode_raw a0 a1 r h).c σ
 have ev_encode_raws := fun a0 r h σ => (ih_encode_raws a0 r h).c σ
 refine acalls_pure (rs := [.tmp 2, .tmp 3]) tok Tryd.func127 rfl Tryd.ntmps127 rfl Tryd.call127 (by simp) ?_
 refine awp_args [(0, .dp (encGValueNode a0) 0)] ⟨rfl, trivial⟩ ?_
 unfold encode_bytes.body at h
 refine rg tok [0] fun K hK => ?_
 simp only [go_sem, reduceLT, reduceLeDiff, reduceEqDiff, reduceAdd, reduceMul, reduceSub, reduceIte, reduceCtorEq]
 refine hK _ _ ?_
 clear hK K
 refine rc [4, 5] fun K hK => ?_
 obtain ⟨r1, hr1, h⟩ := bind_some h
 refine opsRunN tok 1 ?_
 simp only [go_sem, reduceLT, reduceLeDiff, reduceEqDiff, reduceAdd, reduceMul, reduceSub, reduceIte, reduceCtorEq]
 refine opsWp_callD rfl rfl rfl (ev_encode_raws a0 r1 hr1 _) ?_
 rintro _ _ ⟨rfl, rfl⟩
 refine opsRunN tok 5 ?_
 simp only [go_sem, reduceLT, reduceLeDiff, reduceEqDiff, reduceAdd, reduceMul, reduceSub, reduceIte, reduceCtorEq]
 refine opsWp_nil ?_
 simp only [thenQ_normal, keepS_cons, keepS_nil, updO, upd, reduceEqDiff, reduceIte, fs_cons, fs_nil]
 refine hK _ _ ?_
 clear hK K
 refine awp_seq_k fun Z2 hZ2 => ?_
 refine rg tok [4, 5, 12] fun K hK => ?_
 simp only [go_sem, reduceLT, reduceLeDiff, reduceEqDiff, reduceAdd, reduceMul, reduceSub, reduceIte, reduceCtorEq, evEq]
 refine hK _ _ ?_
 clear hK K
 refine awp_if rfl (fun hc3 => ?_) (fun hc3 => ?_)
 · skip
   rw [if_neg hc3] at h
   have t4 := eq_false hc3
   refine rg tok [2, 3] fun K hK => ?_
   simp only [go_sem, reduceLT, reduceLeDiff, reduceEqDiff, reduceAdd, reduceMul, reduceSub, reduceIte, reduceCtorEq, t4]
   refine hK _ _ ?_
   clear hK K
   refine awp_ret ?_
   obtain rfl := Option.some.inj h
   exact retA
 · skip
   rw [if_pos hc3] at h
   have t5 := eq_true hc3
   refine awp_skip ?_
   refine hZ2 _ _ ?_
   refine rc [2, 3] fun K hK => ?_
   obtain ⟨r6, hr6, h⟩ := bind_some h
   refine opsRunN tok 1 ?_
   simp only [go_sem, reduceLT, reduceLeDiff, reduceEqDiff, reduceAdd, reduceMul, reduceSub, reduceIte, reduceCtorEq, t5]
   refine opsWp_callD rfl rfl rfl (wire_PutAll.ev r1.1 r6 hr6 _) ?_
   rintro _ _ ⟨rfl, rfl⟩
   refine opsRunN tok 4 ?_
   simp only [go_sem, reduceLT, reduceLeDiff, reduceEqDiff, reduceAdd, reduceMul, reduceSub, reduceIte, reduceCtorEq, t5]
   refine opsWp_nil ?_
   simp only [thenQ_normal, keepS_cons, keepS_nil, updO, upd, reduceEqDiff, reduceIte, fs_cons, fs_nil]
   refine hK _ _ ?_
   clear hK K
   refine awp_ret ?_
   obtain rfl := Option.some.inj h
   exact retA
def encode_raw.j3 (m1_2 : GRaw) : Option (GRaw × Int) :=
  (if 4096 < (List.length m1_2.fB : Int) then some ((⟨0, 0, 0, []⟩ : GRaw), 4) else some (m1_2, 0))
def encode_raw.body (self_encode_bytes : GValueNode → Option (List UInt8 × Int)) (self_encode_raw : Int → GValueValue → Option (GRaw × Int)) (self_encode_raws : GValueNode → Option (List GRaw × Int)) (a0 : Int) (a1 : GValueValue) : Option (GRaw × Int) :=
  (encode_kept a1).bind fun r8 => (match r8 with | .nil => (encode_raw.j3 (⟨a0, 1, 0, []⟩ : GRaw)) | .num n9 => some ((⟨a0, 0, n9, []⟩ : GRaw), 0) | .str s9 => (encode_raw.j3 (⟨a0, 1, 0, s9⟩ : GRaw)) | .node e9 r9 => (self_encode_bytes (⟨e9, r9⟩ : GValueNode)).bind fun r10 => (if r10.2 = 0 then (encode_raw.j3 (⟨a0, 1, 0, r10.1⟩ : GRaw)) else some ((⟨0, 0, 0, []⟩ : GRaw), r10.2)))
theorem encode_raw.step (self_encode_bytes : GValueNode → Option (List UInt8 × Int)) (self_encode_raw : Int → GValueValue → Option (GRaw × Int)) (self_encode_raws : GValueNode → Option (List GRaw × Int)) (ih_encode_bytes : ∀ (a0 : GValueNode) (r : List UInt8 × Int), self_encode_bytes a0 = some r → ACalls Tryd.prog 127 [.dp (encGValueNode a0) 0] [] (fun r' _ => r' = .tup [.ds true (List.flatMap encB r.1) (List.length r.1) false, .int .i64 r.2])) (ih_encode_raw : ∀ (a0 : Int) (a1 : GValueValue) (r : GRaw × Int), self_encode_raw a0 a1 = some r → ACalls Tryd.prog 107 [.int .i64 a0, .agg (encGValueValue a1)] [] (fun r' _ => r' = .tup [.agg (encGRaw r.1), .int .i64 r.2])) (ih_encode_raws : ∀ (a0 : GValueNode) (r : List GRaw × Int), self_encode_raws a0 = some r → ACalls Tryd.prog 75 [.dp (encGValueNode a0) 0] [] (fun r' _ => r' = .tup [.ds true (List.flatMap encGRaw r.1) (List.length r.1) false, .int .i64 r.2])) (a0 : Int) (a1 : GValueValue) (r : GRaw × Int) (h : encode_raw.body self_encode_bytes self_encode_raw self_encode_raws a0 a1 = some r) : ACalls Tryd.prog 107 [.int .i64 a0, .agg (encGValueValue a1)] [] (fun r' _ => r' = .tup [.agg (encGRaw r.1), .int .i64 r.2]) := by
 have ev_encode_bytes := fun a0 r h σ => (ih_encode_bytes a0 r h).c σ
 have ev_encode_raw := fun a0 a1 r h σ => (ih_encode_raw a0 a1 r h).c σ
 have ev_encode_raws := fun a0 r h σ => (ih_encode_raws a0 r h).c σ
 refine acalls_pure (rs := [.cell 4 33, .tmp 5]) tok Tryd.func107 rfl Tryd.ntmps107 rfl Tryd.call107 (by simp) ?_
 refine awp_args [(0, .int .i64 a0), (1, .agg (encGValueValue a1))] ⟨rfl, rfl, trivial⟩ ?_
 unfold encode_raw.body at h
 have f1 := oneIfcV a1
 unfold AV.one at f1
 refine rg tok [0, 3, 4] fun K hK => ?_
 simp only [go_sem, reduceLT, reduceLeDiff, reduceEqDiff, reduceAdd, reduceMul, reduceSub, reduceIte, reduceCtorEq, encGValueValue, f1]
 refine hK _ _ ?_
 clear hK K
 refine rg tok [0, 3, 4, 6] fun K hK => ?_
 simp only [go_sem, reduceLT, reduceLeDiff, reduceEqDiff, reduceAdd, reduceMul, reduceSub, reduceIte, reduceCtorEq, encGRaw]
 refine hK _ _ ?_
 clear hK K
 refine awp_join (fun L τ => ∃ (m1_2 : GRaw), L = ([(4, .op 0 0 0), (6, .op 1 0 0)] : List (Nat × AV)) ∧ τ = ([.cells 0 [.int .i64 0, .int .i64 0, .int .i64 0, .str []], .cells 0 [.int .i64 m1_2.fTag, .int .i64 m1_2.fWire, .int .i64 m1_2.fN, .str m1_2.fB]] : Store) ∧ encode_raw.j3 m1_2 = some r) ?_ ?_
 · skip
   refine rc [0, 4, 6, 15] fun K hK => ?_
   obtain ⟨r8, hr8, h⟩ := bind_some h
   refine opsRunN tok 1 ?_
   simp only [go_sem, reduceLT, reduceLeDiff, reduceEqDiff, reduceAdd, reduceMul, reduceSub, reduceIte, reduceCtorEq, encGValueValue]
   refine opsWp_callD rfl rfl rfl (encode_kept.ev a1 r8 hr8 _) ?_
   rintro _ _ ⟨rfl, rfl⟩
   refine opsWp_nil ?_
   simp only [thenQ_normal, keepS_cons, keepS_nil, updO, upd, reduceEqDiff, reduceIte, fs_cons, fs_nil]
   refine hK _ _ ?_
   clear hK K
   refine awp_block ?_
   rcases r8 with _ | n9 | s9 | ⟨e9, r9⟩
   · skip
     dsimp only at h
     try simp only [ifcV_nil, anyV_nil, encGValueValue]
     refine rg tok [0, 4, 6, 15, 17, 18] fun K hK => ?_
     simp only [go_sem, reduceLT, reduceLeDiff, reduceEqDiff, reduceAdd, reduceMul, reduceSub, reduceIte, reduceCtorEq, evAssert, assertIn, TypeDesc.isIface]
     refine hK _ _ ?_
     clear hK K
     refine awp_cond_f rfl ?_
     refine rg tok [4, 6, 15, 23, 24] fun K hK => ?_
     simp only [go_sem, reduceLT, reduceLeDiff, reduceEqDiff, reduceAdd, reduceMul, reduceSub, reduceIte, reduceCtorEq, evAssert, assertIn, TypeDesc.isIface]
     refine hK _ _ ?_
     clear hK K
     refine awp_cond_f rfl ?_
     refine rg tok [4, 6, 28, 29] fun K hK => ?_
     simp only [go_sem, reduceLT, reduceLeDiff, reduceEqDiff, reduceAdd, reduceMul, reduceSub, reduceIte, reduceCtorEq, evAssert, assertIn, TypeDesc.isIface]
     refine hK _ _ ?_
     clear hK K
     refine awp_cond_f rfl ?_
     refine awp_skip ?_
     exact ⟨_, _, ⟨(⟨a0, 1, 0, []⟩ : GRaw), rfl, rfl, h⟩, (.t [1, 2] false)⟩
   · skip
     dsimp only at h
     try simp only [ifcV_num, anyV_num, encGValueValue]
     refine rg tok [0, 4, 6, 15, 17, 18] fun K hK => ?_
     simp only [go_sem, reduceLT, reduceLeDiff, reduceEqDiff, reduceAdd, reduceMul, reduceSub, reduceIte, reduceCtorEq, evAssert, assertIn, TypeDesc.isIface]
     refine hK _ _ ?_
     clear hK K
     refine awp_cond_t rfl ?_
     refine rg tok [0, 4, 7] fun K hK => ?_
     simp only [go_sem, reduceLT, reduceLeDiff, reduceEqDiff, reduceAdd, reduceMul, reduceSub, reduceIte, reduceCtorEq]
     refine hK _ _ ?_
     clear hK K
     refine rg tok [4, 5] fun K hK => ?_
     simp only [go_sem, reduceLT, reduceLeDiff, reduceEqDiff, reduceAdd, reduceMul, reduceSub, reduceIte, reduceCtorEq, encGRaw]
     refine hK _ _ ?_
     clear hK K
     refine awp_ret ?_
     obtain rfl := Option.some.inj h
     exact retA
   · skip
     dsimp only at h
     try simp only [ifcV_str, anyV_str, encGValueValue]
     refine rg tok [0, 4, 6, 15, 17, 18] fun K hK => ?_
     simp only [go_sem, reduceLT, reduceLeDiff, reduceEqDiff, reduceAdd, reduceMul, reduceSub, reduceIte, reduceCtorEq, evAssert, assertIn, TypeDesc.isIface]
     refine hK _ _ ?_
     clear hK K
     refine awp_cond_f rfl ?_
     refine rg tok [4, 6, 15, 23, 24] fun K hK => ?_
     simp only [go_sem, reduceLT, reduceLeDiff, reduceEqDiff, reduceAdd, reduceMul, reduceSub, reduceIte, reduceCtorEq, evAssert, assertIn, TypeDesc.isIface]
     refine hK _ _ ?_
     clear hK K
     refine awp_cond_t rfl ?_
     refine rg tok [4, 6, 8] fun K hK => ?_
     simp only [go_sem, reduceLT, reduceLeDiff, reduceEqDiff, reduceAdd, reduceMul, reduceSub, reduceIte, reduceCtorEq]
     refine hK _ _ ?_
     clear hK K
     refine rgE tok [4, 6] fun K hK => ?_
     simp only [go_sem, reduceLT, reduceLeDiff, reduceEqDiff, reduceAdd, reduceMul, reduceSub, reduceIte, reduceCtorEq, encGRaw]
     refine hK _ _ ?_
     clear hK K
     exact ⟨_, _, ⟨(⟨a0, 1, 0, s9⟩ : GRaw), rfl, rfl, h⟩, (.t [1, 2] false)⟩
   · skip
     dsimp only at h
     try simp only [ifcV_node, anyV_node, encGValueValue]
     refine rg tok [0, 4, 6, 15, 17, 18] fun K hK => ?_
     simp only [go_sem, reduceLT, reduceLeDiff, reduceEqDiff, reduceAdd, reduceMul, reduceSub, reduceIte, reduceCtorEq, evAssert, assertIn, TypeDesc.isIface]
     refine hK _ _ ?_
     clear hK K
     refine awp_cond_f rfl ?_
     refine rg tok [4, 6, 15, 23, 24] fun K hK => ?_
     simp only [go_sem, reduceLT, reduceLeDiff, reduceEqDiff, reduceAdd, reduceMul, reduceSub, reduceIte, reduceCtorEq, evAssert, assertIn, TypeDesc.isIface]
     refine hK _ _ ?_
     clear hK K
     refine awp_cond_f rfl ?_
     refine rg tok [4, 6, 28, 29] fun K hK => ?_
     simp only [go_sem, reduceLT, reduceLeDiff, reduceEqDiff, reduceAdd, reduceMul, reduceSub, reduceIte, reduceCtorEq, evAssert, assertIn, TypeDesc.isIface]
     refine hK _ _ ?_
     clear hK K
     refine awp_cond_t rfl ?_
     refine rg tok [4, 6, 9] fun K hK => ?_
     simp only [go_sem, reduceLT, reduceLeDiff, reduceEqDiff, reduceAdd, reduceMul, reduceSub, reduceIte, reduceCtorEq]
     refine hK _ _ ?_
     clear hK K
     refine rc [4, 6, 10, 11] fun K hK => ?_
     obtain ⟨r10, hr10, h⟩ := bind_some h
     refine opsRunN tok 1 ?_
     simp only [go_sem, reduceLT, reduceLeDiff, reduceEqDiff, reduceAdd, reduceMul, reduceSub, reduceIte, reduceCtorEq]
     refine opsWp_callD rfl rfl rfl (ev_encode_bytes (⟨e9, r9⟩ : GValueNode) r10 hr10 _) ?_
     rintro _ _ ⟨rfl, rfl⟩
     refine opsRunN tok 5 ?_
     simp only [go_sem, reduceLT, reduceLeDiff, reduceEqDiff, reduceAdd, reduceMul, reduceSub, reduceIte, reduceCtorEq]
     refine opsWp_nil ?_
     simp only [thenQ_normal, keepS_cons, keepS_nil, updO, upd, reduceEqDiff, reduceIte, fs_cons, fs_nil]
     refine hK _ _ ?_
     clear hK K
     refine awp_seq_k fun Z11 hZ11 => ?_
     refine rg tok [4, 6, 10, 11, 36] fun K hK => ?_
     simp only [go_sem, reduceLT, reduceLeDiff, reduceEqDiff, reduceAdd, reduceMul, reduceSub, reduceIte, reduceCtorEq, evEq]
     refine hK _ _ ?_
     clear hK K
     refine awp_if rfl (fun hc12 => ?_) (fun hc12 => ?_)
     · skip
       rw [if_neg hc12] at h
       have t13 := eq_false hc12
       refine rg tok [4, 5] fun K hK => ?_
       simp only [go_sem, reduceLT, reduceLeDiff, reduceEqDiff, reduceAdd, reduceMul, reduceSub, reduceIte, reduceCtorEq, encGRaw, t13]
       refine hK _ _ ?_
       clear hK K
       refine awp_ret ?_
       obtain rfl := Option.some.inj h
       exact retA
     · skip
       rw [if_pos hc12] at h
       have t14 := eq_true hc12
       refine awp_skip ?_
       refine hZ11 _ _ ?_
       have f15 := conv_b2s (T := tab) (src := 35) (dst := 9) rfl rfl rfl rfl rfl rfl r10.1
       refine rgE tok [4, 6] fun K hK => ?_
       simp only [go_sem, reduceLT, reduceLeDiff, reduceEqDiff, reduceAdd, reduceMul, reduceSub, reduceIte, reduceCtorEq, encGRaw, t14, f15]
       refine hK _ _ ?_
       clear hK K
       exact ⟨_, _, ⟨(⟨a0, 1, 0, r10.1⟩ : GRaw), rfl, rfl, h⟩, (.t [1, 2] false)⟩
 rintro _ _ ⟨m1_2, rfl, rfl, h⟩
 unfold encode_raw.j3 at h
 refine awp_seq_k fun Z4 hZ4 => ?_
 refine rg tok [4, 6, 45] fun K hK => ?_
 simp only [go_sem, reduceLT, reduceLeDiff, reduceEqDiff, reduceAdd, reduceMul, reduceSub, reduceIte, reduceCtorEq, evEq]
 refine hK _ _ ?_
 clear hK K
 refine awp_if rfl (fun hc5 => ?_) (fun hc5 => ?_)
 · skip
   rw [if_pos hc5] at h
   have t6 := eq_true hc5
   refine rg tok [4, 5] fun K hK => ?_
   simp only [go_sem, reduceLT, reduceLeDiff, reduceEqDiff, reduceAdd, reduceMul, reduceSub, reduceIte, reduceCtorEq, encGRaw, t6]
   refine hK _ _ ?_
   clear hK K
   refine awp_ret ?_
   obtain rfl := Option.some.inj h
   exact retA
 · skip
   rw [if_neg hc5] at h
   have t7 := eq_false hc5
   refine awp_skip ?_
   refine hZ4 _ _ ?_
   refine rg tok [4, 5] fun K hK => ?_
   simp only [go_sem, reduceLT, reduceLeDiff, reduceEqDiff, reduceAdd, reduceMul, reduceSub, reduceIte, reduceCtorEq, encGRaw, t7]
   refine hK _ _ ?_
   clear hK K
   refine awp_ret ?_
   obtain rfl := Option.some.inj h
   exact retA
def encode_raws.l24 (self_encode_raw : Int → GValueValue → Option (GRaw × Int)) (x6 : Int) (rec10 : Int → List GRaw → Option (List GRaw × Int)) (y10 : Int) : List GValueValue → Int → List GRaw → Option (List GRaw × Int)
  | [], x20, l18 => (rec10 (x6 + 1) l18)
  | y24 :: q24, x20, l18 => (self_encode_raw y10 y24).bind fun r31 => (if r31.2 = 0 then (room (List.length l18 + 1) 40).bind fun _u36 => ((encode_raws.l24 self_encode_raw x6 rec10 y10 q24) (x20 + 1) (l18 ++ [r31.1])) else some (([] : List GRaw), r31.2))
def encode_raws.l10 (self_encode_raw : Int → GValueValue → Option (GRaw × Int)) (a0 : GValueNode) : List Int → Int → List GRaw → Option (List GRaw × Int)
  | [], x6, l4 => (wire_Sorted l4).bind fun r12 => some (r12, 0)
  | y10 :: q10, x6, l4 => (value_Node_Get a0 y10).bind fun r17 => (encode_raws.l24 self_encode_raw x6 (encode_raws.l10 self_encode_raw a0 q10) y10 r17 0 l4)
def encode_raws.body (self_encode_bytes : GValueNode → Option (List UInt8 × Int)) (self_encode_raw : Int → GValueValue → Option (GRaw × Int)) (self_encode_raws : GValueNode → Option (List GRaw × Int)) (a0 : GValueNode) : Option (List GRaw × Int) :=
  (value_Node_Rest a0).bind fun r1 => (value_Node_Tags a0).bind fun r3 => (encode_raws.l10 self_encode_raw a0 r3 0 r1)
theorem encode_raws.step (self_encode_bytes : GValueNode → Option (List UInt8 × Int)) (self_encode_raw : Int → GValueValue → Option (GRaw × Int)) (self_encode_raws : GValueNode → Option (List GRaw × Int)) (ih_encode_bytes : ∀ (a0 : GValueNode) (r : List UInt8 × Int), self_encode_bytes a0 = some r → ACalls Tryd.prog 127 [.dp (encGValueNode a0) 0] [] (fun r' _ => r' = .tup [.ds true (List.flatMap encB r.1) (List.length r.1) false, .int .i64 r.2])) (ih_encode_raw : ∀ (a0 : Int) (a1 : GValueValue) (r : GRaw × Int), self_encode_raw a0 a1 = some r → ACalls Tryd.prog 107 [.int .i64 a0, .agg (encGValueValue a1)] [] (fun r' _ => r' = .tup [.agg (encGRaw r.1), .int .i64 r.2])) (ih_encode_raws : ∀ (a0 : GValueNode) (r : List GRaw × Int), self_encode_raws a0 = some r → ACalls Tryd.prog 75 [.dp (encGValueNode a0) 0] [] (fun r' _ => r' = .tup [.ds true (List.flatMap encGRaw r.1) (List.length r.1) false, .int .i64 r.2])) (a0 : GValueNode) (r : List GRaw × Int) (h : encode_raws.body self_encode_bytes self_encode_raw self_encode_raws a0 = some r) : ACalls Tryd.prog 75 [.dp (encGValueNode a0) 0] [] (fun r' _ => r' = .tup [.ds true (List.flatMap encGRaw r.1) (List.length r.1) false, .int .i64 r.2]) := by
 have ev_encode_bytes := fun a0 r h σ => (ih_encode_bytes a0 r h).c σ
 have ev_encode_raw := fun a0 a1 r h σ => (ih_encode_raw a0 a1 r h).c σ
 have ev_encode_raws := fun a0 r h σ => (ih_encode_raws a0 r h).c σ
 refine acalls_pure (rs := [.tmp 2, .tmp 3]) tok Tryd.func75 rfl Tryd.ntmps75 rfl Tryd.call75 (by simp) ?_
 refine awp_args [(0, .dp (encGValueNode a0) 0)] ⟨rfl, trivial⟩ ?_
 unfold encode_raws.body at h
 refine rg tok [0] fun K hK => ?_
 simp only [go_sem, reduceLT, reduceLeDiff, reduceEqDiff, reduceAdd, reduceMul, reduceSub, reduceIte, reduceCtorEq]
 refine hK _ _ ?_
 clear hK K
 refine rc [0, 4] fun K hK => ?_
 obtain ⟨r1, hr1, h⟩ := bind_some h
 refine opsRunN tok 1 ?_
 simp only [go_sem, reduceLT, reduceLeDiff, reduceEqDiff, reduceAdd, reduceMul, reduceSub, reduceIte, reduceCtorEq]
 refine opsWp_callD rfl rfl rfl (@id (ACalls Tryd.prog 104 [.dp (encGValueNode a0) 0] [] (fun r' σ' => r' = .os true 4 0 0 0 (List.length r1) false ∧ σ' = [.cells 0 (List.flatMap encGRaw r1)])) ((value_Node_Rest.own a0 r1 hr1).ownAt0 (by simp only [push_cast]) (by simp only [push_cast]) _)) ?_
 rintro _ _ ⟨rfl, rfl⟩
 refine opsRunN tok 1 ?_
 simp only [go_sem, reduceLT, reduceLeDiff, reduceEqDiff, reduceAdd, reduceMul, reduceSub, reduceIte, reduceCtorEq]
 refine opsWp_nil ?_
 simp only [thenQ_normal, keepS_cons, keepS_nil, updO, upd, reduceEqDiff, reduceIte, fs_cons, fs_nil]
 refine hK _ _ ?_
 clear hK K
 refine awp_seq_k fun Z2 hZ2 => ?_
 refine rc [0, 4, 14, 15, 16] fun K hK => ?_
 obtain ⟨r3, hr3, h⟩ := bind_some h
 refine opsRunN tok 1 ?_
 simp only [go_sem, reduceLT, reduceLeDiff, reduceEqDiff, reduceAdd, reduceMul, reduceSub, reduceIte, reduceCtorEq]
 refine opsWp_callD rfl rfl rfl (value_Node_Tags.ev a0 r3 hr3 _) ?_
 rintro _ _ ⟨rfl, rfl⟩
 refine opsRunN tok 2 ?_
 simp only [go_sem, reduceLT, reduceLeDiff, reduceEqDiff, reduceAdd, reduceMul, reduceSub, reduceIte, reduceCtorEq]
 refine opsWp_nil ?_
 simp only [thenQ_normal, keepS_cons, keepS_nil, updO, upd, reduceEqDiff, reduceIte, fs_cons, fs_nil]
 refine hK _ _ ?_
 clear hK K
 refine awp_block ?_
 refine awp_deep 14 fun hb10 => ?_
 replace hb10 : List.length r3 ≤ 9223372036854775807 := hb10.1
 refine awp_loopS (fun m L τ => ∃ (p10 q10 : List Int) (x6 : Int) (l4 : List GRaw) (v5 : Nat), m = List.length q10 ∧ L = ([(0, .dp (encGValueNode a0) 0), (4, .os true 4 0 v5 0 (List.length l4) false), (14, .ds true (List.flatMap encI r3) (List.length r3) false), (15, .int .i64 (List.length r3 : Int)), (16, .int .i64 x6)] : List (Nat × AV)) ∧ τ = ([.cells v5 (List.flatMap encGRaw l4)] : Store) ∧ r3 = p10 ++ q10 ∧ x6 = (List.length p10 : Int) ∧ encode_raws.l10 self_encode_raw a0 q10 x6 l4 = some r) _ ⟨[], r3, 0, r1, 0, rfl, rfl, rfl, rfl, rfl, h⟩ .s ?_
 rintro m L τ ⟨p10, q10, x6, l4, v5, rfl, rfl, rfl, hE10, hi10, h⟩
 rcases q10 with _ | ⟨y10, q10⟩
 · have hz10 := zip_nil hE10 hi10
   simp only [encode_raws.l10] at h
   refine rg tok [0, 4, 14, 15, 16, 17] fun K hK => ?_
   simp only [go_sem, reduceLT, reduceLeDiff, reduceEqDiff, reduceAdd, reduceMul, reduceSub, reduceIte, reduceCtorEq, evEq, hz10]
   refine hK _ _ ?_
   clear hK K
   refine awp_seq_k fun Z11 hZ11 => ?_
   refine awp_cond_f rfl ?_
   refine awp_exit ?_
   refine hZ2 _ _ ?_
   refine rc [2, 3] fun K hK => ?_
   obtain ⟨r12, hr12, h⟩ := bind_some h
   refine opsRunN tok 1 ?_
   simp only [go_sem, reduceLT, reduceLeDiff, reduceEqDiff, reduceAdd, reduceMul, reduceSub, reduceIte, reduceCtorEq, hz10]
   refine ops_tellS (L := [(43, .ds true (List.flatMap encGRaw l4) (List.length l4) false)]) (τ := []) (.t [] false) ?_
   refine opsWp_callD rfl rfl rfl (wire_Sorted.ev l4 r12 hr12 _) ?_
   rintro _ _ ⟨rfl, rfl⟩
   refine opsRunN tok 2 ?_
   simp only [go_sem, reduceLT, reduceLeDiff, reduceEqDiff, reduceAdd, reduceMul, reduceSub, reduceIte, reduceCtorEq, hz10]
   refine opsWp_nil ?_
   simp only [thenQ_normal, keepS_cons, keepS_nil, updO, upd, reduceEqDiff, reduceIte, fs_cons, fs_nil]
   refine hK _ _ ?_
   clear hK K
   refine awp_ret ?_
   obtain rfl := Option.some.inj h
   exact retA
 · obtain ⟨hz10, hw10, hx10, hE'10, hi'10⟩ := zip_cons hE10 hi10 hb10
   simp only [encode_raws.l10] at h
   refine rg tok [0, 4, 14, 15, 16, 17] fun K hK => ?_
   simp only [go_sem, reduceLT, reduceLeDiff, reduceEqDiff, reduceAdd, reduceMul, reduceSub, reduceIte, reduceCtorEq, evEq, hz10, hw10]
   refine hK _ _ ?_
   clear hK K
   refine awp_seq_k fun Z13 hZ13 => ?_
   refine awp_cond_t rfl ?_
   refine awp_skip ?_
   refine hZ13 _ _ ?_
   refine awp_seq_k fun Z14 hZ14 => ?_
   refine awp_block ?_
   have f15 := E24.idxS hx10
   have f16 := E24.fldS0 (f := 3) rfl rfl hx10
   refine rg tok [0, 4, 6, 14, 15, 16] fun K hK => ?_
   simp only [go_sem, reduceLT, reduceLeDiff, reduceEqDiff, reduceAdd, reduceMul, reduceSub, reduceIte, reduceCtorEq, encI, hz10, hw10, f15, f16]
   refine hK _ _ ?_
   clear hK K
   refine rc [0, 4, 6, 14, 15, 16, 22, 23, 24] fun K hK => ?_
   obtain ⟨r17, hr17, h⟩ := bind_some h
   refine opsRunN tok 2 ?_
   simp only [go_sem, reduceLT, reduceLeDiff, reduceEqDiff, reduceAdd, reduceMul, reduceSub, reduceIte, reduceCtorEq, hz10, hw10]
   refine opsWp_callD rfl rfl rfl (value_Node_Get.ev a0 y10 r17 hr17 _) ?_
   rintro _ _ ⟨rfl, rfl⟩
   refine opsRunN tok 2 ?_
   simp only [go_sem, reduceLT, reduceLeDiff, reduceEqDiff, reduceAdd, reduceMul, reduceSub, reduceIte, reduceCtorEq, hz10, hw10]
   refine opsWp_nil ?_
   simp only [thenQ_normal, keepS_cons, keepS_nil, updO, upd, reduceEqDiff, reduceIte, fs_cons, fs_nil]
   refine hK _ _ ?_
   clear hK K
   refine awp_block ?_
   refine awp_deep 22 fun hb24 => ?_
   replace hb24 : List.length r17 ≤ 9223372036854775807 := hb24.1
   refine awp_loopS (fun m L τ => ∃ (p24 q24 : List GValueValue) (x20 : Int) (l18 : List GRaw) (v19 : Nat), m = List.length q24 ∧ L = ([(0, .dp (encGValueNode a0) 0), (4, .os true 4 0 v19 0 (List.length l18) false), (6, .int .i64 y10), (14, .ds true (List.flatMap encI r3) (List.length r3) false), (15, .int .i64 (List.length r3 : Int)), (16, .int .i64 x6), (22, .ds true (List.flatMap encGValueValue r17) (List.length r17) false), (23, .int .i64 (List.length r17 : Int)), (24, .int .i64 x20)] : List (Nat × AV)) ∧ τ = ([.cells v19 (List.flatMap encGRaw l18)] : Store) ∧ r17 = p24 ++ q24 ∧ x20 = (List.length p24 : Int) ∧ encode_raws.l24 self_encode_raw x6 (encode_raws.l10 self_encode_raw a0 q10) y10 q24 x20 l18 = some r) _ ⟨[], r17, 0, l4, v5, rfl, rfl, rfl, rfl, rfl, h⟩ .s ?_
   rintro m L τ ⟨p24, q24, x20, l18, v19, rfl, rfl, rfl, hE24, hi24, h⟩
   rcases q24 with _ | ⟨y24, q24⟩
   · have hz24 := zip_nil hE24 hi24
     simp only [encode_raws.l24] at h
     refine rg tok [0, 4, 6, 14, 15, 16, 22, 23, 24, 25] fun K hK => ?_
     simp only [go_sem, reduceLT, reduceLeDiff, reduceEqDiff, reduceAdd, reduceMul, reduceSub, reduceIte, reduceCtorEq, evEq, hz10, hw10, hz24]
     refine hK _ _ ?_
     clear hK K
     refine awp_seq_k fun Z25 hZ25 => ?_
     refine awp_cond_f rfl ?_
     refine awp_exit ?_
     refine hZ14 _ _ ?_
     refine rgE tok [0, 4, 14, 15, 16] fun K hK => ?_
     simp only [go_sem, reduceLT, reduceLeDiff, reduceEqDiff, reduceAdd, reduceMul, reduceSub, reduceIte, reduceCtorEq, evEq, hz10, hw10, hz24]
     refine hK _ _ ?_
     clear hK K
     exact ⟨_, _, _, Nat.lt_succ_self q10.length, ⟨p10 ++ [y10], q10, x6 + 1, l18, v19, rfl, rfl, rfl, hE'10, hi'10, h⟩, .s⟩
   · obtain ⟨hz24, hw24, hx24, hE'24, hi'24⟩ := zip_cons hE24 hi24 hb24
     simp only [encode_raws.l24] at h
     refine rg tok [0, 4, 6, 14, 15, 16, 22, 23, 24, 25] fun K hK => ?_
     simp only [go_sem, reduceLT, reduceLeDiff, reduceEqDiff, reduceAdd, reduceMul, reduceSub, reduceIte, reduceCtorEq, evEq, hz10, hw10, hz24, hw24]
     refine hK _ _ ?_
     clear hK K
     refine awp_seq_k fun Z26 hZ26 => ?_
     refine awp_cond_t rfl ?_
     refine awp_skip ?_
     refine hZ26 _ _ ?_
     refine awp_seq_k fun Z27 hZ27 => ?_
     refine awp_block ?_
     have f28 := E155.idxS hx24
     have f29 := E155.loadS rfl rfl hx24
     have f30 := oneIfcV y24
     unfold AV.one at f30
     refine rg tok [0, 4, 6, 8, 14, 15, 16, 22, 23, 24] fun K hK => ?_
     simp only [go_sem, reduceLT, reduceLeDiff, reduceEqDiff, reduceAdd, reduceMul, reduceSub, reduceIte, reduceCtorEq, encGValueValue, hz10, hw10, hz24, hw24, f28, f29, f30]
     refine hK _ _ ?_
     clear hK K
     refine rc [0, 4, 6, 9, 10, 14, 15, 16, 22, 23, 24] fun K hK => ?_
     obtain ⟨r31, hr31, h⟩ := bind_some h
     refine opsRunN tok 2 ?_
     simp only [go_sem, reduceLT, reduceLeDiff, reduceEqDiff, reduceAdd, reduceMul, reduceSub, reduceIte, reduceCtorEq, encGValueValue, hz10, hw10, hz24, hw24]
     refine opsWp_callD rfl rfl rfl (ev_encode_raw y10 y24 r31 hr31 _) ?_
     rintro _ _ ⟨rfl, rfl⟩
     refine opsRunN tok 6 ?_
     simp only [go_sem, reduceLT, reduceLeDiff, reduceEqDiff, reduceAdd, reduceMul, reduceSub, reduceIte, reduceCtorEq, encGRaw, encGValueValue, hz10, hw10, hz24, hw24]
     refine opsWp_nil ?_
     simp only [thenQ_normal, keepS_cons, keepS_nil, updO, upd, reduceEqDiff, reduceIte, fs_cons, fs_nil]
     refine hK _ _ ?_
     clear hK K
     refine awp_seq_k fun Z32 hZ32 => ?_
     refine rg tok [0, 4, 6, 9, 10, 14, 15, 16, 22, 23, 24, 35] fun K hK => ?_
     simp only [go_sem, reduceLT, reduceLeDiff, reduceEqDiff, reduceAdd, reduceMul, reduceSub, reduceIte, reduceCtorEq, evEq, hz10, hw10, hz24, hw24]
     refine hK _ _ ?_
     clear hK K
     refine awp_if rfl (fun hc33 => ?_) (fun hc33 => ?_)
     · skip
       rw [if_neg hc33] at h
       have t34 := eq_false hc33
       refine rg tok [2, 3] fun K hK => ?_
       simp only [go_sem, reduceLT, reduceLeDiff, reduceEqDiff, reduceAdd, reduceMul, reduceSub, reduceIte, reduceCtorEq, hz10, hw10, hz24, hw24, t34]
       refine hK _ _ ?_
       clear hK K
       refine awp_ret ?_
       obtain rfl := Option.some.inj h
       exact retA
     · skip
       rw [if_pos hc33] at h
       have t35 := eq_true hc33
       refine awp_skip ?_
       refine hZ32 _ _ ?_
       obtain ⟨_u36, hu36, h⟩ := bind_some h
       have gu36 := room_some hu36
       have f37 := (enc_length E22.len l18)
       refine rgE tok [0, 4, 6, 14, 15, 16, 22, 23, 24] fun K hK => ?_
       simp only [go_sem, reduceLT, reduceLeDiff, reduceEqDiff, reduceAdd, reduceMul, reduceSub, reduceIte, reduceCtorEq, evBuildSlice, zeroRun, List.range_succ, List.range_zero, Nat.zero_le, true_and, Nat.reduceMod, evAppend, evAppendTo, lenOfAV, encGRaw, hz10, hw10, hz24, hw24, t35, gu36, f37, srcCells_o, List.all_nil, List.all_cons, AV.one, Bool.and_self, Bool.and_true, gt_iff_lt, setI_length, List.flatMap_append, List.flatMap_cons, List.flatMap_nil, List.append_nil, List.nil_append, List.length_append, List.length_cons, List.length_nil, Nat.zero_add, List.append_assoc, List.cons_append]
       refine hK _ _ ?_
       clear hK K
       refine hZ27 _ _ ?_
       refine rgE tok [0, 4, 6, 14, 15, 16, 22, 23, 24] fun K hK => ?_
       simp only [go_sem, reduceLT, reduceLeDiff, reduceEqDiff, reduceAdd, reduceMul, reduceSub, reduceIte, reduceCtorEq, evEq, hz10, hw10, hz24, hw24, t35]
       refine hK _ _ ?_
       clear hK K
       exact ⟨_, _, _, Nat.lt_succ_self q24.length, ⟨p24 ++ [y24], q24, x20 + 1, l18 ++ [r31.1], v19 + 1, rfl, rfl, rfl, hE'24, hi'24, h⟩, (.t [0] false)⟩
mutual
def encode_bytes : Nat → GValueNode → Option (List UInt8 × Int)
  | 0, _ => none
  | k + 1, a0 => encode_bytes.body (encode_bytes k) (encode_raw k) (encode_raws k) a0
def encode_raw : Nat → Int → GValueValue → Option (GRaw × Int)
  | 0, _, _ => none
  | k + 1, a0, a1 => encode_raw.body (encode_bytes k) (encode_raw k) (encode_raws k) a0 a1
def encode_raws : Nat → GValueNode → Option (List GRaw × Int)
  | 0, _ => none
  | k + 1, a0 => encode_raws.body (encode_bytes k) (encode_raw k) (encode_raws k) a0
end
theorem encode_bytes.all (k : Nat) : (∀ (a0 : GValueNode) (r : List UInt8 × Int), encode_bytes k a0 = some r → ACalls Tryd.prog 127 [.dp (encGValueNode a0) 0] [] (fun r' _ => r' = .tup [.ds true (List.flatMap encB r.1) (List.length r.1) false, .int .i64 r.2])) ∧ (∀ (a0 : Int) (a1 : GValueValue) (r : GRaw × Int), encode_raw k a0 a1 = some r → ACalls Tryd.prog 107 [.int .i64 a0, .agg (encGValueValue a1)] [] (fun r' _ => r' = .tup [.agg (encGRaw r.1), .int .i64 r.2])) ∧ (∀ (a0 : GValueNode) (r : List GRaw × Int), encode_raws k a0 = some r → ACalls Tryd.prog 75 [.dp (encGValueNode a0) 0] [] (fun r' _ => r' = .tup [.ds true (List.flatMap encGRaw r.1) (List.length r.1) false, .int .i64 r.2])) := by
 induction k with
 | zero => exact ⟨(fun a0 r h => by simp only [encode_bytes] at h; cases h), (fun a0 a1 r h => by simp only [encode_raw] at h; cases h), (fun a0 r h => by simp only [encode_raws] at h; cases h)⟩
 | succ k ih => exact ⟨(fun a0 r h => encode_bytes.step _ _ _ ih.1 ih.2.1 ih.2.2 a0 r (by simpa only [encode_bytes] using h)), (fun a0 a1 r h => encode_raw.step _ _ _ ih.1 ih.2.1 ih.2.2 a0 a1 r (by simpa only [encode_raw] using h)), (fun a0 r h => encode_raws.step _ _ _ ih.1 ih.2.1 ih.2.2 a0 r (by simpa only [encode_raws] using h))⟩
theorem encode_raws.ev (k : Nat) (a0 : GValueNode) (r : List GRaw × Int) (h : encode_raws k a0 = some r) (σ : Store) : ACalls Tryd.prog 75 [.dp (encGValueNode a0) 0] σ (fun r' σ' => r' = .tup [.ds true (List.flatMap encGRaw r.1) (List.length r.1) false, .int .i64 r.2] ∧ σ' = σ) :=
 ((encode_bytes.all k).2.2 a0 r h).c σ
def encode_Raws (a0 : GTree) : Option (List GRaw × Int) :=
  (value_Of a0).bind fun r1 => (if ((!r1.2) || (!(decide (a0.fKind = 3)))) = true then some (([] : List GRaw), 1) else (value_Value_MustNode r1.1).bind fun r5 => (encode_raws rounds r5).bind fun r6 => some (r6.1, r6.2))
theorem encode_Raws.ok (a0 : GTree) (r : List GRaw × Int) (h : encode_Raws a0 = some r) : ACalls Tryd.prog 50 [.agg (cellsGTree a0)] [] (fun r' _ => r' = .tup [.ds true (List.flatMap encGRaw r.1) (List.length r.1) false, .int .i64 r.2]) := by
 refine acalls_pure (rs := [.tmp 2, .tmp 3]) tok Tryd.func50 rfl Tryd.ntmps50 rfl Tryd.call50 (by simp) ?_
 refine awp_args [(0, .agg (cellsGTree a0))] ⟨rfl, trivial⟩ ?_
 unfold encode_Raws at h
 refine rg tok [1] fun K hK => ?_
 simp only [go_sem, reduceLT, reduceLeDiff, reduceEqDiff, reduceAdd, reduceMul, reduceSub, reduceIte, reduceCtorEq, cellsGTree, encGTree_eq]
 refine hK _ _ ?_
 clear hK K
 refine rc [1, 4, 5] fun K hK => ?_
 obtain ⟨r1, hr1, h⟩ := bind_some h
 refine opsRunN tok 1 ?_
 simp only [go_sem, reduceLT, reduceLeDiff, reduceEqDiff, reduceAdd, reduceMul, reduceSub, reduceIte, reduceCtorEq, cellsGTree, encGTree_eq]
 refine opsWp_callD rfl rfl rfl (value_Of.ev a0 r1 hr1 _) ?_
 rintro _ _ ⟨rfl, rfl⟩
 have f2 := oneIfcV r1.1
 unfold AV.one at f2
 refine opsRunN tok 6 ?_
 simp only [go_sem, reduceLT, reduceLeDiff, reduceEqDiff, reduceAdd, reduceMul, reduceSub, reduceIte, reduceCtorEq, cellsGTree, encGTree_eq, encGValueValue, f2]
 refine opsWp_nil ?_
 simp only [thenQ_normal, keepS_cons, keepS_nil, updO, upd, reduceEqDiff, reduceIte, fs_cons, fs_nil]
 refine hK _ _ ?_
 clear hK K
 refine awp_seq_k fun Z3 hZ3 => ?_
 refine rc [4, 17] fun K hK => ?_
 refine opsRunN tok 3 ?_
 simp only [go_sem, reduceLT, reduceLeDiff, reduceEqDiff, reduceAdd, reduceMul, reduceSub, reduceIte, reduceCtorEq]
 refine ops_join 4 (fun L τ => L = ([(4, .op 1 0 0), (17, .bool ((!r1.2) || (!(decide (a0.fKind = 3)))))] : List (Nat × AV)) ∧ τ = ([.cells 0 [.int .i64 a0.fKind, .int .i64 a0.fN, .str a0.fS, .ds true (List.flatMap encGEntry a0.fEntries) (List.length a0.fEntries) false, .ds true (List.flatMap encGRaw a0.fRest) (List.length a0.fRest) false], .cells 0 [ifcV r1.1]] : Store)) ?_ ?_
 · refine opsWp_at (b := (!r1.2)) 13 rfl (fun hg13 => ?_) (fun hg13 => ?_)
   · skip
     refine opsRunN tok 4 ?_
     simp only [go_sem, reduceLT, reduceLeDiff, reduceEqDiff, reduceAdd, reduceMul, reduceSub, reduceIte, reduceCtorEq, evEq]
     refine opsWp_nil ⟨rfl, _, _, ⟨rfl, rfl⟩, .b hg13⟩
   · skip
     refine opsRunN tok 4 ?_
     simp only [go_sem, reduceLT, reduceLeDiff, reduceEqDiff, reduceAdd, reduceMul, reduceSub, reduceIte, reduceCtorEq, evEq]
     refine opsWp_nil ⟨rfl, _, _, ⟨rfl, rfl⟩, .b hg13⟩
 rintro _ _ ⟨rfl, rfl⟩
 refine opsWp_nil ?_
 simp only [thenQ_normal, keepS_cons, keepS_nil, updO, upd, reduceEqDiff, reduceIte, fs_cons, fs_nil]
 refine hK _ _ ?_
 clear hK K
 refine awp_cond (b := ((!r1.2) || (!(decide (a0.fKind = 3))))) rfl (fun hc4 => ?_) (fun hc4 => ?_)
 · skip
   rw [if_pos hc4] at h
   refine rg tok [2, 3] fun K hK => ?_
   simp only [go_sem, reduceLT, reduceLeDiff, reduceEqDiff, reduceAdd, reduceMul, reduceSub, reduceIte, reduceCtorEq]
   refine hK _ _ ?_
   clear hK K
   refine awp_ret ?_
   obtain rfl := Option.some.inj h
   exact retA
 · skip
   rw [if_F hc4] at h
   refine awp_skip ?_
   refine hZ3 _ _ ?_
   refine rc [2, 3] fun K hK => ?_
   obtain ⟨r5, hr5, h⟩ := bind_some h
   refine opsRunN tok 1 ?_
   simp only [go_sem, reduceLT, reduceLeDiff, reduceEqDiff, reduceAdd, reduceMul, reduceSub, reduceIte, reduceCtorEq, encGValueValue]
   refine opsWp_callD rfl rfl rfl (value_Value_MustNode.ev r1.1 r5 hr5 _) ?_
   rintro _ _ ⟨rfl, rfl⟩
   obtain ⟨r6, hr6, h⟩ := bind_some h
   refine opsWp_callD rfl rfl rfl (encode_raws.ev rounds r5 r6 hr6 _) ?_
   rintro _ _ ⟨rfl, rfl⟩
   refine opsRunN tok 4 ?_
   simp only [go_sem, reduceLT, reduceLeDiff, reduceEqDiff, reduceAdd, reduceMul, reduceSub, reduceIte, reduceCtorEq, encGValueValue]
   refine opsWp_nil ?_
   simp only [thenQ_normal, keepS_cons, keepS_nil, updO, upd, reduceEqDiff, reduceIte, fs_cons, fs_nil]
   refine hK _ _ ?_
   clear hK K
   refine awp_ret ?_
   obtain rfl := Option.some.inj h
   exact retA
theorem encode_Raws.ev (a0 : GTree) (r : List GRaw × Int) (h : encode_Raws a0 = some r) (σ : Store) : ACalls Tryd.prog 50 [.agg (cellsGTree a0)] σ (fun r' σ' => r' = .tup [.ds true (List.flatMap encGRaw r.1) (List.length r.1) false, .int .i64 r.2] ∧ σ' = σ) :=
 (encode_Raws.ok a0 r h).c σ
def encode_Encode (a0 : GTree) : Option (List UInt8 × Int) :=
  (encode_Raws a0).bind fun r1 => (if r1.2 = 0 then (wire_PutAll r1.1).bind fun r6 => some (r6.1, r6.2) else some (([] : List UInt8), r1.2))
theorem encode_Encode.ok (a0 : GTree) (r : List UInt8 × Int) (h : encode_Encode a0 = some r) : ACalls Tryd.prog 31 [.agg (cellsGTree a0)] [] (fun r' _ => r' = .tup [.ds true (List.flatMap encB r.1) (List.length r.1) false, .int .i64 r.2]) := by
 refine acalls_pure (rs := [.tmp 2, .tmp 3]) tok Tryd.func31 rfl Tryd.ntmps31 rfl Tryd.call31 (by simp) ?_
 refine awp_args [(0, .agg (cellsGTree a0))] ⟨rfl, trivial⟩ ?_
 unfold encode_Encode at h
 refine rg tok [1] fun K hK => ?_
 simp only [go_sem, reduceLT, reduceLeDiff, reduceEqDiff, reduceAdd, reduceMul, reduceSub, reduceIte, reduceCtorEq, cellsGTree, encGTree_eq]
 refine hK _ _ ?_
 clear hK K
 refine rc [4, 5] fun K hK => ?_
 obtain ⟨r1, hr1, h⟩ := bind_some h
 refine opsRunN tok 1 ?_
 simp only [go_sem, reduceLT, reduceLeDiff, reduceEqDiff, reduceAdd, reduceMul, reduceSub, reduceIte, reduceCtorEq, cellsGTree, encGTree_eq]
 refine opsWp_callD rfl rfl rfl (encode_Raws.ev a0 r1 hr1 _) ?_
 rintro _ _ ⟨rfl, rfl⟩
 refine opsRunN tok 5 ?_
 simp only [go_sem, reduceLT, reduceLeDiff, reduceEqDiff, reduceAdd, reduceMul, reduceSub, reduceIte, reduceCtorEq, cellsGTree, encGTree_eq]
 refine opsWp_nil ?_
 simp only [thenQ_normal, keepS_cons, keepS_nil, updO, upd, reduceEqDiff, reduceIte, fs_cons, fs_nil]
 refine hK _ _ ?_
 clear hK K
 refine awp_seq_k fun Z2 hZ2 => ?_
 refine rg tok [4, 5, 12] fun K hK => ?_
 simp only [go_sem, reduceLT, reduceLeDiff, reduceEqDiff, reduceAdd, reduceMul, reduceSub, reduceIte, reduceCtorEq, evEq]
 refine hK _ _ ?_
 clear hK K
 refine awp_if rfl (fun hc3 => ?_) (fun hc3 => ?_)
 · skip
   rw [if_neg hc3] at h
   have t4 := eq_false hc3
   refine rg tok [2, 3] fun K hK => ?_
   simp only [go_sem, reduceLT, reduceLeDiff, reduceEqDiff, reduceAdd, reduceMul, reduceSub, reduceIte, reduceCtorEq, t4]
   refine hK _ _ ?_
   clear hK K
   refine awp_ret ?_
   obtain rfl := Option.some.inj h
   exact retA
 · skip
   rw [if_pos hc3] at h
   have t5 := eq_true hc3
   refine awp_skip ?_
   refine hZ2 _ _ ?_
   refine rc [2, 3] fun K hK => ?_
   obtain ⟨r6, hr6, h⟩ := bind_some h
   refine opsRunN tok 1 ?_
   simp only [go_sem, reduceLT, reduceLeDiff, reduceEqDiff, reduceAdd, reduceMul, reduceSub, reduceIte, reduceCtorEq, t5]
   refine opsWp_callD rfl rfl rfl (wire_PutAll.ev r1.1 r6 hr6 _) ?_
   rintro _ _ ⟨rfl, rfl⟩
   refine opsRunN tok 4 ?_
   simp only [go_sem, reduceLT, reduceLeDiff, reduceEqDiff, reduceAdd, reduceMul, reduceSub, reduceIte, reduceCtorEq, t5]
   refine opsWp_nil ?_
   simp only [thenQ_normal, keepS_cons, keepS_nil, updO, upd, reduceEqDiff, reduceIte, fs_cons, fs_nil]
   refine hK _ _ ?_
   clear hK K
   refine awp_ret ?_
   obtain rfl := Option.some.inj h
   exact retA
theorem encode_Encode.ev (a0 : GTree) (r : List UInt8 × Int) (h : encode_Encode a0 = some r) (σ : Store) : ACalls Tryd.prog 31 [.agg (cellsGTree a0)] σ (fun r' σ' => r' = .tup [.ds true (List.flatMap encB r.1) (List.length r.1) false, .int .i64 r.2] ∧ σ' = σ) :=
 (encode_Encode.ok a0 r h).c σ
def decode_Canonical (a0 : GSchema) (a1 : List UInt8) (a2 : List UInt8) : Option Bool :=
  (decode_Decode a0 a1 a2).bind fun r1 => (if r1.2 = 0 then (encode_Encode r1.1).bind fun r6 => some ((decide (r6.2 = 0)) && (decide (r6.1 = a2))) else some false)
theorem decode_Canonical.ok (a0 : GSchema) (a1 : List UInt8) (a2 : List UInt8) (r : Bool) (h : decode_Canonical a0 a1 a2 = some r) : ACalls Tryd.prog 17 [.agg (encGSchema a0), .str a1, .ds true (List.flatMap encB a2) (List.length a2) false] [] (fun r' _ => r' = .bool r) := by
 refine acalls_pure (rs := [.tmp 6]) tok Tryd.func17 rfl Tryd.ntmps17 rfl Tryd.call17 (by simp) ?_
 refine awp_args [(0, .agg (encGSchema a0)), (1, .str a1), (2, .ds true (List.flatMap encB a2) (List.length a2) false)] ⟨rfl, rfl, rfl, trivial⟩ ?_
 unfold decode_Canonical at h
 refine rg tok [1, 2, 3] fun K hK => ?_
 simp only [go_sem, reduceLT, reduceLeDiff, reduceEqDiff, reduceAdd, reduceMul, reduceSub, reduceIte, reduceCtorEq, encGSchema]
 refine hK _ _ ?_
 clear hK K
 refine rc [2, 7, 8] fun K hK => ?_
 obtain ⟨r1, hr1, h⟩ := bind_some h
 refine opsRunN tok 3 ?_
 simp only [go_sem, reduceLT, reduceLeDiff, reduceEqDiff, reduceAdd, reduceMul, reduceSub, reduceIte, reduceCtorEq, encGSchema]
 refine opsWp_callD rfl rfl rfl (decode_Decode.ev a0 a1 a2 r1 hr1 _) ?_
 rintro _ _ ⟨rfl, rfl⟩
 refine opsRunN tok 6 ?_
 simp only [go_sem, reduceLT, reduceLeDiff, reduceEqDiff, reduceAdd, reduceMul, reduceSub, reduceIte, reduceCtorEq, cellsGTree, encGSchema, encGTree_eq]
 refine opsWp_nil ?_
 simp only [thenQ_normal, keepS_cons, keepS_nil, updO, upd, reduceEqDiff, reduceIte, fs_cons, fs_nil]
 refine hK _ _ ?_
 clear hK K
 refine awp_seq_k fun Z2 hZ2 => ?_
 refine rg tok [2, 7, 18] fun K hK => ?_
 simp only [go_sem, reduceLT, reduceLeDiff, reduceEqDiff, reduceAdd, reduceMul, reduceSub, reduceIte, reduceCtorEq, evEq]
 refine hK _ _ ?_
 clear hK K
 refine awp_if rfl (fun hc3 => ?_) (fun hc3 => ?_)
 · skip
   rw [if_neg hc3] at h
   have t4 := eq_false hc3
   refine rg tok [6] fun K hK => ?_
   simp only [go_sem, reduceLT, reduceLeDiff, reduceEqDiff, reduceAdd, reduceMul, reduceSub, reduceIte, reduceCtorEq, t4]
   refine hK _ _ ?_
   clear hK K
   refine awp_ret ?_
   obtain rfl := Option.some.inj h
   exact retA
 · skip
   rw [if_pos hc3] at h
   have t5 := eq_true hc3
   refine awp_skip ?_
   refine hZ2 _ _ ?_
   refine rc [2, 8, 9] fun K hK => ?_
   obtain ⟨r6, hr6, h⟩ := bind_some h
   refine opsRunN tok 1 ?_
   simp only [go_sem, reduceLT, reduceLeDiff, reduceEqDiff, reduceAdd, reduceMul, reduceSub, reduceIte, reduceCtorEq, cellsGTree, encGTree_eq, t5]
   refine opsWp_callD rfl rfl rfl (encode_Encode.ev r1.1 r6 hr6 _) ?_
   rintro _ _ ⟨rfl, rfl⟩
   refine opsRunN tok 5 ?_
   simp only [go_sem, reduceLT, reduceLeDiff, reduceEqDiff, reduceAdd, reduceMul, reduceSub, reduceIte, reduceCtorEq, cellsGTree, encGTree_eq, t5]
   refine opsWp_nil ?_
   simp only [thenQ_normal, keepS_cons, keepS_nil, updO, upd, reduceEqDiff, reduceIte, fs_cons, fs_nil]
   refine hK _ _ ?_
   clear hK K
   refine rc [6] fun K hK => ?_
   refine opsRunN tok 3 ?_
   simp only [go_sem, reduceLT, reduceLeDiff, reduceEqDiff, reduceAdd, reduceMul, reduceSub, reduceIte, reduceCtorEq, evEq, t5]
   refine ops_join 6 (fun L τ => L = ([(32, .bool ((decide (r6.2 = 0)) && (decide (r6.1 = a2))))] : List (Nat × AV)) ∧ τ = ([.cells 0 [.str a0.fName, .ds true (List.flatMap encGMessage a0.fMessages) (List.length a0.fMessages) false, .ds true (List.flatMap encGEnumeration a0.fEnums) (List.length a0.fEnums) false, .ds true (List.flatMap encGMethod a0.fMethods) (List.length a0.fMethods) false], .cells 0 [.int .i64 r1.1.fKind, .int .i64 r1.1.fN, .str r1.1.fS, .ds true (List.flatMap encGEntry r1.1.fEntries) (List.length r1.1.fEntries) false, .ds true (List.flatMap encGRaw r1.1.fRest) (List.length r1.1.fRest) false]] : Store)) ?_ ?_
   · refine ops_if 26 rfl (fun hg26 => ?_) (fun hg26 => ?_)
     · skip
       have t7 := eq_true hg26
       have f8 := conv_b2s (T := tab) (src := 35) (dst := 9) rfl rfl rfl rfl rfl rfl r6.1
       have f9 := conv_b2s (T := tab) (src := 35) (dst := 9) rfl rfl rfl rfl rfl rfl a2
       refine opsRunN tok 6 ?_
       simp only [go_sem, reduceLT, reduceLeDiff, reduceEqDiff, reduceAdd, reduceMul, reduceSub, reduceIte, reduceCtorEq, evEq, t5, f8, f9]
       refine opsWp_nil ⟨rfl, _, _, ⟨rfl, rfl⟩, .p t7⟩
     · skip
       have t10 := eq_false hg26
       refine opsRunN tok 6 ?_
       simp only [go_sem, reduceLT, reduceLeDiff, reduceEqDiff, reduceAdd, reduceMul, reduceSub, reduceIte, reduceCtorEq, evEq, t5]
       refine opsWp_nil ⟨rfl, _, _, ⟨rfl, rfl⟩, .p t10⟩
   rintro _ _ ⟨rfl, rfl⟩
   refine opsRunN tok 1 ?_
   simp only [go_sem, reduceLT, reduceLeDiff, reduceEqDiff, reduceAdd, reduceMul, reduceSub, reduceIte, reduceCtorEq, t5]
   refine opsWp_nil ?_
   simp only [thenQ_normal, keepS_cons, keepS_nil, updO, upd, reduceEqDiff, reduceIte, fs_cons, fs_nil]
   refine hK _ _ ?_
   clear hK K
   refine awp_ret ?_
   obtain rfl := Option.some.inj h
   exact retA
def law12_awake  : Option Bool :=
  (decode_Decode (⟨[97], [(⟨[109], ([] : List GField), ([] : List Int)⟩ : GMessage)], ([] : List GEnumeration), ([] : List GMethod)⟩ : GSchema) [109] [(2 : UInt8), (10 : UInt8)]).bind fun r2 => (if ((decide (r2.2 = 0)) && (decide ((List.length r2.1.fRest : Int) = 1))) = true then (idxL r2.1.fRest 0).bind fun y5 => some (decide (y5.fTag = 1) && (decide (y5.fWire = 0) && (decide (y5.fN = 5) && decide (y5.fB = [])))) else some false).bind fun c5 => (if c5 = true then (decode_Canonical (⟨[97], [(⟨[109], ([] : List GField), ([] : List Int)⟩ : GMessage)], ([] : List GEnumeration), ([] : List GMethod)⟩ : GSchema) [109] [(2 : UInt8), (10 : UInt8)]).bind fun r10 => some r10 else some false).bind fun c9 => some c9
theorem law12_awake.ok  (r : Bool) (h : law12_awake = some r) : ACalls Tryd.prog 10 [] [] (fun r' _ => r' = .bool r) := by
 refine acalls_pure (rs := [.tmp 0]) tok Tryd.func10 rfl Tryd.ntmps10 rfl Tryd.call10 (by simp) ?_
 refine awp_args [] trivial ?_
 unfold law12_awake at h
 refine rg tok [] fun K hK => ?_
 simp only [go_sem, reduceLT, reduceLeDiff, reduceEqDiff, reduceAdd, reduceMul, reduceSub, reduceIte, reduceCtorEq]
 refine hK _ _ ?_
 clear hK K
 refine rg tok [1] fun K hK => ?_
 simp only [go_sem, reduceLT, reduceLeDiff, reduceEqDiff, reduceAdd, reduceMul, reduceSub, reduceIte, reduceCtorEq, evBuildSlice, zeroRun, List.range_succ, List.range_zero, Nat.zero_le, true_and, Nat.reduceMod, encGMessage, encGSchema]
 refine hK _ _ ?_
 clear hK K
 refine rc [1, 2, 3] fun K hK => ?_
 have f1 := fun (o0 : AObj) (o1 : AObj) (τ : Store) => conv_same (T := tab) (s := 35) (off := 0) (len := 2) (sz := 1) (nl := true) (t := true) rfl rfl rfl rfl (σ := o0 :: o1 :: .cells 0 [.int .u8 2, .int .u8 10] :: τ) (id := 2) (ver := 0) (by simp only [Store.at_hd, Store.at_tl, if_true]; rfl) ⟨by simp, by decide, rfl⟩
 obtain ⟨r2, hr2, h⟩ := bind_some h
 refine opsRunN tok 3 ?_
 simp only [go_sem, reduceLT, reduceLeDiff, reduceEqDiff, reduceAdd, reduceMul, reduceSub, reduceIte, reduceCtorEq, evBuildSlice, zeroRun, List.range_succ, List.range_zero, Nat.zero_le, true_and, Nat.reduceMod, encGSchema, f1]
 refine ops_tellS (L := [(1, .op 0 0 0), (8, .agg [.str [97], .ds true (List.flatMap encGMessage [(⟨[109], ([] : List GField), ([] : List Int)⟩ : GMessage)]) (List.length [(⟨[109], ([] : List GField), ([] : List Int)⟩ : GMessage)]) false, .ds true (List.flatMap encGEnumeration ([] : List GEnumeration)) (List.length ([] : List GEnumeration)) false, .ds true (List.flatMap encGMethod ([] : List GMethod)) (List.length ([] : List GMethod)) false]), (10, .ds true (List.flatMap encB [(2 : UInt8), (10 : UInt8)]) (List.length [(2 : UInt8), (10 : UInt8)]) false)]) (τ := [.cells 0 [.str [97], .ds true (List.flatMap encGMessage [(⟨[109], ([] : List GField), ([] : List Int)⟩ : GMessage)]) (List.length [(⟨[109], ([] : List GField), ([] : List Int)⟩ : GMessage)]) false, .ds true (List.flatMap encGEnumeration ([] : List GEnumeration)) (List.length ([] : List GEnumeration)) false, .ds true (List.flatMap encGMethod ([] : List GMethod)) (List.length ([] : List GMethod)) false]]) (.t [1] true) ?_
 refine opsWp_callD rfl rfl rfl (ACalls.loose (decode_Decode.ev (⟨[97], [(⟨[109], ([] : List GField), ([] : List Int)⟩ : GMessage)], ([] : List GEnumeration), ([] : List GMethod)⟩ : GSchema) [109] [(2 : UInt8), (10 : UInt8)] r2 hr2 _)) ?_
 rintro _ _ ⟨rfl, rfl⟩
 refine opsRunN tok 6 ?_
 simp only [go_sem, reduceLT, reduceLeDiff, reduceEqDiff, reduceAdd, reduceMul, reduceSub, reduceIte, reduceCtorEq, cellsGTree, encGSchema, encGTree_eq]
 refine opsWp_nil ?_
 simp only [thenQ_normal, keepS_cons, keepS_nil, updO, upd, reduceEqDiff, reduceIte, fs_cons, fs_nil]
 refine hK _ _ ?_
 clear hK K
 refine rc [0] fun K hK => ?_
 refine opsRunN tok 3 ?_
 simp only [go_sem, reduceLT, reduceLeDiff, reduceEqDiff, reduceAdd, reduceMul, reduceSub, reduceIte, reduceCtorEq, evEq]
 refine ops_join 5 (fun L τ => L = ([(1, .op 0 0 0), (2, .op 1 0 0), (21, .bool ((decide (r2.2 = 0)) && (decide ((List.length r2.1.fRest : Int) = 1))))] : List (Nat × AV)) ∧ τ = ([.cells 0 [.str [97], .ds true (List.flatMap encGMessage [(⟨[109], ([] : List GField), ([] : List Int)⟩ : GMessage)]) (List.length [(⟨[109], ([] : List GField), ([] : List Int)⟩ : GMessage)]) false, .ds true (List.flatMap encGEnumeration ([] : List GEnumeration)) (List.length ([] : List GEnumeration)) false, .ds true (List.flatMap encGMethod ([] : List GMethod)) (List.length ([] : List GMethod)) false], .cells 0 [.int .i64 r2.1.fKind, .int .i64 r2.1.fN, .str r2.1.fS, .ds true (List.flatMap encGEntry r2.1.fEntries) (List.length r2.1.fEntries) false, .ds true (List.flatMap encGRaw r2.1.fRest) (List.length r2.1.fRest) false]] : Store)) ?_ ?_
 · refine ops_if 16 rfl (fun hg16 => ?_) (fun hg16 => ?_)
   · skip
     have t3 := eq_true hg16
     refine opsRunN tok 5 ?_
     simp only [go_sem, reduceLT, reduceLeDiff, reduceEqDiff, reduceAdd, reduceMul, reduceSub, reduceIte, reduceCtorEq, evEq]
     refine opsWp_nil ⟨rfl, _, _, ⟨rfl, rfl⟩, .p t3⟩
   · skip
     have t4 := eq_false hg16
     refine opsRunN tok 5 ?_
     simp only [go_sem, reduceLT, reduceLeDiff, reduceEqDiff, reduceAdd, reduceMul, reduceSub, reduceIte, reduceCtorEq, evEq]
     refine opsWp_nil ⟨rfl, _, _, ⟨rfl, rfl⟩, .p t4⟩
 rintro _ _ ⟨rfl, rfl⟩
 refine opsRunN tok 1 ?_
 simp only [go_sem, reduceLT, reduceLeDiff, reduceEqDiff, reduceAdd, reduceMul, reduceSub, reduceIte, reduceCtorEq]
 obtain ⟨c5, hc5, h⟩ := bind_some h
 refine ops_join 7 (fun L τ => L = ([(1, .op 0 0 0), (29, .bool c5)] : List (Nat × AV)) ∧ τ = ([.cells 0 [.str [97], .ds true (List.flatMap encGMessage [(⟨[109], ([] : List GField), ([] : List Int)⟩ : GMessage)]) (List.length [(⟨[109], ([] : List GField), ([] : List Int)⟩ : GMessage)]) false, .ds true (List.flatMap encGEnumeration ([] : List GEnumeration)) (List.length ([] : List GEnumeration)) false, .ds true (List.flatMap encGMethod ([] : List GMethod)) (List.length ([] : List GMethod)) false], .cells 0 [.int .i64 r2.1.fKind, .int .i64 r2.1.fN, .str r2.1.fS, .ds true (List.flatMap encGEntry r2.1.fEntries) (List.length r2.1.fEntries) false, .ds true (List.flatMap encGRaw r2.1.fRest) (List.length r2.1.fRest) false]] : Store)) ?_ ?_
 · refine opsWp_at (b := ((decide (r2.2 = 0)) && (decide ((List.length r2.1.fRest : Int) = 1)))) 22 rfl (fun hg22 => ?_) (fun hg22 => ?_)
   · skip
     rw [if_pos hg22] at hc5
     obtain ⟨y6, hy6, hc5⟩ := bind_some hc5
     have f7 := E22.idxS hy6
     have f8 := E22.loadS rfl rfl hy6
     refine opsRunN tok 7 ?_
     simp only [go_sem, reduceLT, reduceLeDiff, reduceEqDiff, reduceAdd, reduceMul, reduceSub, reduceIte, reduceCtorEq, evEq, encGRaw, f7, f8, evEqA, ceqL, ceq]
     obtain rfl := Option.some.inj hc5
     refine opsWp_nil ⟨rfl, _, _, ⟨rfl, rfl⟩, .b hg22⟩
   · skip
     rw [if_F hg22] at hc5
     refine opsRunN tok 7 ?_
     simp only [go_sem, reduceLT, reduceLeDiff, reduceEqDiff, reduceAdd, reduceMul, reduceSub, reduceIte, reduceCtorEq, evEq, encGRaw]
     obtain rfl := Option.some.inj hc5
     refine opsWp_nil ⟨rfl, _, _, ⟨rfl, rfl⟩, .b hg22⟩
 rintro _ _ ⟨rfl, rfl⟩
 refine opsRunN tok 1 ?_
 simp only [go_sem, reduceLT, reduceLeDiff, reduceEqDiff, reduceAdd, reduceMul, reduceSub, reduceIte, reduceCtorEq, encGRaw]
 obtain ⟨c9, hc9, h⟩ := bind_some h
 refine ops_join 5 (fun L τ => L = ([(35, .bool c9)] : List (Nat × AV)) ∧ τ = ([] : Store)) ?_ ?_
 · refine opsWp_at (b := c5) 30 rfl (fun hg30 => ?_) (fun hg30 => ?_)
   · skip
     rw [if_pos hg30] at hc9
     have f10 := fun (o0 : AObj) (o1 : AObj) (τ : Store) => conv_same (T := tab) (s := 35) (off := 0) (len := 2) (sz := 1) (nl := true) (t := true) rfl rfl rfl rfl (σ := o0 :: o1 :: .cells 0 [.int .u8 2, .int .u8 10] :: τ) (id := 2) (ver := 0) (by simp only [Store.at_hd, Store.at_tl, if_true]; rfl) ⟨by simp, by decide, rfl⟩
     obtain ⟨r11, hr11, hc9⟩ := bind_some hc9
     refine opsRunN tok 3 ?_
     simp only [go_sem, reduceLT, reduceLeDiff, reduceEqDiff, reduceAdd, reduceMul, reduceSub, reduceIte, reduceCtorEq, evBuildSlice, zeroRun, List.range_succ, List.range_zero, Nat.zero_le, true_and, Nat.reduceMod, encGRaw, encGSchema, f10]
     refine opsWp_callD rfl rfl rfl (decode_Canonical.ok (⟨[97], [(⟨[109], ([] : List GField), ([] : List Int)⟩ : GMessage)], ([] : List GEnumeration), ([] : List GMethod)⟩ : GSchema) [109] [(2 : UInt8), (10 : UInt8)] r11 hr11).ld ?_
     rintro _ _ ⟨rfl, rfl⟩
     refine opsRunN tok 1 ?_
     simp only [go_sem, reduceLT, reduceLeDiff, reduceEqDiff, reduceAdd, reduceMul, reduceSub, reduceIte, reduceCtorEq, encGRaw, encGSchema]
     obtain rfl := Option.some.inj hc9
     refine opsWp_nil ⟨rfl, _, _, ⟨rfl, rfl⟩, .told [] false (by decide) (by simp) (by first | rfl | simp) (by first | rfl | (simp only [← List.flatMap_append, ← List.length_append]; simp only [go_sem, reduceLT, reduceLeDiff, reduceEqDiff, reduceAdd, reduceMul, reduceSub, reduceIte, reduceCtorEq, push_cast, if_true, List.drop_zero, Nat.zero_add, List.map_cons, List.map_nil, List.map_append, Bool.or_true, Bool.or_false, Bool.and_true, Bool.and_false, Bool.not_true, Bool.not_false, TLS, encGMessage, and_self, tellL_all]; done) | (simp only [go_sem, reduceLT, reduceLeDiff, reduceEqDiff, reduceAdd, reduceMul, reduceSub, reduceIte, reduceCtorEq, push_cast, if_true, List.drop_zero, Nat.zero_add, List.map_cons, List.map_nil, List.map_append, Bool.or_true, Bool.or_false, Bool.and_true, Bool.and_false, Bool.not_true, Bool.not_false, TLS, encB, encI, encS, encBo, encK, setI_length, List.flatMap_append, List.flatMap_cons, List.flatMap_nil, List.append_nil, List.nil_append, List.length_append, List.length_cons, List.length_nil, Nat.zero_add, List.append_assoc, List.cons_append, Nat.add_assoc, encGMessage, and_self, tellL_all] <;> first | rfl | (and_intros <;> rfl))) (by first | rfl | (simp only [← List.flatMap_append, ← List.length_append]; simp only [go_sem, reduceLT, reduceLeDiff, reduceEqDiff, reduceAdd, reduceMul, reduceSub, reduceIte, reduceCtorEq, push_cast, hg30, if_true, List.drop_zero, Nat.zero_add, List.map_cons, List.map_nil, List.map_append, Bool.or_true, Bool.or_false, Bool.and_true, Bool.and_false, Bool.not_true, Bool.not_false, TLS, encGMessage, and_self, tellL_all]; done) | (simp only [go_sem, reduceLT, reduceLeDiff, reduceEqDiff, reduceAdd, reduceMul, reduceSub, reduceIte, reduceCtorEq, push_cast, hg30, if_true, List.drop_zero, Nat.zero_add, List.map_cons, List.map_nil, List.map_append, Bool.or_true, Bool.or_false, Bool.and_true, Bool.and_false, Bool.not_true, Bool.not_false, TLS, encB, encI, encS, encBo, encK, setI_length, List.flatMap_append, List.flatMap_cons, List.flatMap_nil, List.append_nil, List.nil_append, List.length_append, List.length_cons, List.length_nil, Nat.zero_add, List.append_assoc, List.cons_append, Nat.add_assoc, encGMessage, and_self, tellL_all] <;> first | rfl | (and_intros <;> rfl)))⟩
   · skip
     rw [if_F hg30] at hc9
     refine opsRunN tok 5 ?_
     simp only [go_sem, reduceLT, reduceLeDiff, reduceEqDiff, reduceAdd, reduceMul, reduceSub, reduceIte, reduceCtorEq, evBuildSlice, zeroRun, List.range_succ, List.range_zero, Nat.zero_le, true_and, Nat.reduceMod, encGRaw, encGSchema]
     obtain rfl := Option.some.inj hc9
     refine opsWp_nil ⟨rfl, _, _, ⟨rfl, rfl⟩, .told [] false (by decide) (by simp) (by first | rfl | simp) (by first | rfl | (simp only [← List.flatMap_append, ← List.length_append]; simp only [go_sem, reduceLT, reduceLeDiff, reduceEqDiff, reduceAdd, reduceMul, reduceSub, reduceIte, reduceCtorEq, push_cast, if_true, List.drop_zero, Nat.zero_add, List.map_cons, List.map_nil, List.map_append, Bool.or_true, Bool.or_false, Bool.and_true, Bool.and_false, Bool.not_true, Bool.not_false, TLS, encGMessage, and_self, tellL_all]; done) | (simp only [go_sem, reduceLT, reduceLeDiff, reduceEqDiff, reduceAdd, reduceMul, reduceSub, reduceIte, reduceCtorEq, push_cast, if_true, List.drop_zero, Nat.zero_add, List.map_cons, List.map_nil, List.map_append, Bool.or_true, Bool.or_false, Bool.and_true, Bool.and_false, Bool.not_true, Bool.not_false, TLS, encB, encI, encS, encBo, encK, setI_length, List.flatMap_append, List.flatMap_cons, List.flatMap_nil, List.append_nil, List.nil_append, List.length_append, List.length_cons, List.length_nil, Nat.zero_add, List.append_assoc, List.cons_append, Nat.add_assoc, encGMessage, and_self, tellL_all] <;> first | rfl | (and_intros <;> rfl))) (by first | rfl | (simp only [← List.flatMap_append, ← List.length_append]; simp only [go_sem, reduceLT, reduceLeDiff, reduceEqDiff, reduceAdd, reduceMul, reduceSub, reduceIte, reduceCtorEq, push_cast, hg30, if_true, List.drop_zero, Nat.zero_add, List.map_cons, List.map_nil, List.map_append, Bool.or_true, Bool.or_false, Bool.and_true, Bool.and_false, Bool.not_true, Bool.not_false, TLS, encGMessage, and_self, tellL_all]; done) | (simp only [go_sem, reduceLT, reduceLeDiff, reduceEqDiff, reduceAdd, reduceMul, reduceSub, reduceIte, reduceCtorEq, push_cast, hg30, if_true, List.drop_zero, Nat.zero_add, List.map_cons, List.map_nil, List.map_append, Bool.or_true, Bool.or_false, Bool.and_true, Bool.and_false, Bool.not_true, Bool.not_false, TLS, encB, encI, encS, encBo, encK, setI_length, List.flatMap_append, List.flatMap_cons, List.flatMap_nil, List.append_nil, List.nil_append, List.length_append, List.length_cons, List.length_nil, Nat.zero_add, List.append_assoc, List.cons_append, Nat.add_assoc, encGMessage, and_self, tellL_all] <;> first | rfl | (and_intros <;> rfl)))⟩
 rintro _ _ ⟨rfl, rfl⟩
 refine opsRunN tok 1 ?_
 simp only [go_sem, reduceLT, reduceLeDiff, reduceEqDiff, reduceAdd, reduceMul, reduceSub, reduceIte, reduceCtorEq, encGRaw, encGSchema]
 refine opsWp_nil ?_
 simp only [thenQ_normal, keepS_cons, keepS_nil, updO, upd, reduceEqDiff, reduceIte, fs_cons, fs_nil]
 refine hK _ _ ?_
 clear hK K
 refine awp_ret ?_
 obtain rfl := Option.some.inj h
 exact retA
theorem law12_awake.ev  (r : Bool) (h : law12_awake = some r) (σ : Store) : ACalls Tryd.prog 10 [] σ (fun r' σ' => r' = .bool r ∧ σ' = σ) :=
 (law12_awake.ok  r h).c σ
def law12_DecodeLists.j19 (l7 : List GRaw) (x9 : Int) (rec13 : List GRaw → Int → Option Bool) (m4_18 : GRaw) : Option Bool :=
  (room (List.length l7 + 1) 40).bind fun _u20 => (rec13 (l7 ++ [m4_18]) (IntKind.i64.wrap (x9 + 1)))
def law12_DecodeLists.j59 (x51 : Int) (rec53 : Int → Option Bool) (x58 : Bool) : Option Bool :=
  (if x58 = true then some false else (rec53 (x51 + 1)))
def law12_DecodeLists.l53 (l7 : List GRaw) (r37 : GTree × Int) : List GRaw → Int → Option Bool
  | [], x51 => (law12_awake).bind fun r55 => some r55
  | y53 :: q53, x51 => (idxL r37.1.fEntries 0).bind fun y61 => (if (List.length y61.fTrees : Int) = (List.length l7 : Int) then (idxL y61.fTrees x51).bind fun y68 => (law12_DecodeLists.j59 x51 (law12_DecodeLists.l53 l7 r37 q53) (!(decide (y68.fN = y53.fN)))) else (law12_DecodeLists.j59 x51 (law12_DecodeLists.l53 l7 r37 q53) true))
def law12_DecodeLists.l13 (a0 : List Int) (a1 : List Int) : Nat → List GRaw → Int → Option Bool
  | 0, _, _ => none
  | k13 + 1, l7, x9 => (if x9 < IntKind.i64.wrap ((List.length a0 : Int) + (List.length a1 : Int)) then (if x9 < (List.length a0 : Int) then (idxL a0 x9).bind fun y24 => (law12_DecodeLists.j19 l7 x9 (law12_DecodeLists.l13 a0 a1 k13) (⟨2, 0, y24, []⟩ : GRaw)) else (idxL a1 (IntKind.i64.wrap (x9 - (List.length a0 : Int)))).bind fun y28 => (law12_DecodeLists.j19 l7 x9 (law12_DecodeLists.l13 a0 a1 k13) (⟨2, 0, y28, []⟩ : GRaw))) else (wire_PutAll l7).bind fun r32 => (if r32.2 = 0 then (decode_Decode (⟨[97], [(⟨[109], [(⟨[120], 2, 3, (⟨2, []⟩ : GType)⟩ : GField)], ([] : List Int)⟩ : GMessage)], ([] : List GEnumeration), ([] : List GMethod)⟩ : GSchema) [109] r32.1).bind fun r37 => (if 64 < (List.length l7 : Int) then (if r37.2 = 4 then (law12_awake).bind fun r41 => some r41 else some false).bind fun c41 => some c41 else (if (((!(decide (r37.2 = 0))) || (!(decide ((List.length r37.1.fRest : Int) = 0)))) || (!(decide ((List.length r37.1.fEntries : Int) = (if 1 < (List.length l7 : Int) then 1 else (List.length l7 : Int)))))) = true then some false else (law12_DecodeLists.l53 l7 r37 l7 0))) else some false))
def law12_DecodeLists (a0 : List Int) (a1 : List Int) : Option Bool :=
  (if 100 < IntKind.i64.wrap ((List.length a0 : Int) + (List.length a1 : Int)) then (law12_awake).bind fun r4 => some r4 else (law12_DecodeLists.l13 a0 a1 rounds ([] : List GRaw) 0))
theorem law12_DecodeLists.ok (a0 : List Int) (a1 : List Int) (r : Bool) (h : law12_DecodeLists a0 a1 = some r) : ACalls Tryd.prog 5 [.ds true (List.flatMap encI a0) (List.length a0) false, .ds true (List.flatMap encI a1) (List.length a1) false] [] (fun r' _ => r' = .bool r) := by
 refine acalls_pure (rs := [.tmp 4]) tok Tryd.func5 rfl Tryd.ntmps5 rfl Tryd.call5 (by simp) ?_
 refine awp_args [(0, .ds true (List.flatMap encI a0) (List.length a0) false), (1, .ds true (List.flatMap encI a1) (List.length a1) false)] ⟨rfl, rfl, trivial⟩ ?_
 unfold law12_DecodeLists at h
 refine rg tok [0, 1] fun K hK => ?_
 simp only [go_sem, reduceLT, reduceLeDiff, reduceEqDiff, reduceAdd, reduceMul, reduceSub, reduceIte, reduceCtorEq]
 refine hK _ _ ?_
 clear hK K
 refine rg tok [0, 1, 5] fun K hK => ?_
 simp only [go_sem, reduceLT, reduceLeDiff, reduceEqDiff, reduceAdd, reduceMul, reduceSub, reduceIte, reduceCtorEq, evBuildSlice, zeroRun, List.range_succ, List.range_zero, Nat.zero_le, true_and, Nat.reduceMod, encGField, encGMessage, encGSchema, encGType]
 refine hK _ _ ?_
 clear hK K
 refine awp_seq_k fun Z1 hZ1 => ?_
 refine rg tok [0, 1, 5, 25] fun K hK => ?_
 simp only [go_sem, reduceLT, reduceLeDiff, reduceEqDiff, reduceAdd, reduceMul, reduceSub, reduceIte, reduceCtorEq, evEq]
 refine hK _ _ ?_
 clear hK K
 refine awp_if rfl (fun hc2 => ?_) (fun hc2 => ?_)
 · skip
   rw [if_pos hc2] at h
   have t3 := eq_true hc2
   refine rc [4] fun K hK => ?_
   obtain ⟨r4, hr4, h⟩ := bind_some h
   refine opsWp_callD rfl rfl rfl (law12_awake.ev  r4 hr4 _) ?_
   rintro _ _ ⟨rfl, rfl⟩
   refine opsRunN tok 1 ?_
   simp only [go_sem, reduceLT, reduceLeDiff, reduceEqDiff, reduceAdd, reduceMul, reduceSub, reduceIte, reduceCtorEq, t3]
   refine opsWp_nil ?_
   simp only [thenQ_normal, keepS_cons, keepS_nil, updO, upd, reduceEqDiff, reduceIte, fs_cons, fs_nil]
   refine hK _ _ ?_
   clear hK K
   refine awp_ret ?_
   obtain rfl := Option.some.inj h
   exact retA
 · skip
   rw [if_neg hc2] at h
   have t5 := eq_false hc2
   refine awp_skip ?_
   refine hZ1 _ _ ?_
   refine rg tok [0, 1, 5, 6] fun K hK => ?_
   simp only [go_sem, reduceLT, reduceLeDiff, reduceEqDiff, reduceAdd, reduceMul, reduceSub, reduceIte, reduceCtorEq, t5]
   refine hK _ _ ?_
   clear hK K
   refine awp_virtS 6 4 rfl ?_
   refine awp_tellS (L := [(0, .ds true (List.flatMap encI a0) (List.length a0) false), (1, .ds true (List.flatMap encI a1) (List.length a1) false), (5, .op 2 0 0), (6, .os true 4 3 0 0 (List.length ([] : List GRaw)) false)]) (τ := [.cells 0 [.str [120], .int .i64 2, .int .i64 3, .int .i64 2, .str []], .cells 0 [.str [109], .os true 5 0 0 0 1 true, .ds true [] 0 true], .cells 0 [.str [97], .os true 3 1 0 0 1 true, .ds true [] 0 true, .ds true [] 0 true], .cells 0 (List.flatMap encGRaw ([] : List GRaw))]) .s ?_
   refine awp_seq_k fun Z6 hZ6 => ?_
   refine rg tok [0, 1, 5, 6, 7] fun K hK => ?_
   simp only [go_sem, reduceLT, reduceLeDiff, reduceEqDiff, reduceAdd, reduceMul, reduceSub, reduceIte, reduceCtorEq, t5]
   refine hK _ _ ?_
   clear hK K
   refine awp_block ?_
   refine awp_loopS (fun m L τ => ∃ (k13 : Nat) (l7 : List GRaw) (x9 : Int) (v8 : Nat), m = 0 + k13 ∧ L = ([(0, .ds true (List.flatMap encI a0) (List.length a0) false), (1, .ds true (List.flatMap encI a1) (List.length a1) false), (5, .op 2 0 0), (6, .os true 4 3 v8 0 (List.length l7) false), (7, .int .i64 x9)] : List (Nat × AV)) ∧ τ = ([.cells 0 [.str [120], .int .i64 2, .int .i64 3, .int .i64 2, .str []], .cells 0 [.str [109], .os true 5 0 0 0 1 true, .ds true [] 0 true], .cells 0 [.str [97], .os true 3 1 0 0 1 true, .ds true [] 0 true, .ds true [] 0 true], .cells v8 (List.flatMap encGRaw l7)] : Store) ∧ law12_DecodeLists.l13 a0 a1 k13 l7 x9 = some r) _ ⟨rounds, ([] : List GRaw), 0, 0, rfl, rfl, rfl, h⟩ .s ?_
   rintro m L τ ⟨k13, l7, x9, v8, rfl, rfl, rfl, h⟩
   rcases k13 with _ | k13
   · cases h
   · simp only [law12_DecodeLists.l13] at h
     refine awp_seq_k fun Z14 hZ14 => ?_
     refine rg tok [0, 1, 5, 6, 7, 33] fun K hK => ?_
     simp only [go_sem, reduceLT, reduceLeDiff, reduceEqDiff, reduceAdd, reduceMul, reduceSub, reduceIte, reduceCtorEq, evEq, t5]
     refine hK _ _ ?_
     clear hK K
     refine awp_if rfl (fun hc15 => ?_) (fun hc15 => ?_)
     · skip
       rw [if_pos hc15] at h
       have t16 := eq_true hc15
       refine awp_skip ?_
       refine hZ14 _ _ ?_
       refine awp_seq_k fun Z17 hZ17 => ?_
       refine awp_block ?_
       refine rg tok [0, 1, 5, 6, 7, 8] fun K hK => ?_
       simp only [go_sem, reduceLT, reduceLeDiff, reduceEqDiff, reduceAdd, reduceMul, reduceSub, reduceIte, reduceCtorEq, encGRaw, t5, t16]
       refine hK _ _ ?_
       clear hK K
       refine awp_join (fun L τ => ∃ (m4_18 : GRaw), L = ([(0, .ds true (List.flatMap encI a0) (List.length a0) false), (1, .ds true (List.flatMap encI a1) (List.length a1) false), (5, .op 2 0 0), (6, .os true 4 3 v8 0 (List.length l7) false), (7, .int .i64 x9), (8, .op 4 0 0)] : List (Nat × AV)) ∧ τ = ([.cells 0 [.str [120], .int .i64 2, .int .i64 3, .int .i64 2, .str []], .cells 0 [.str [109], .os true 5 0 0 0 1 true, .ds true [] 0 true], .cells 0 [.str [97], .os true 3 1 0 0 1 true, .ds true [] 0 true, .ds true [] 0 true], .cells v8 (List.flatMap encGRaw l7), .cells 0 [.int .i64 m4_18.fTag, .int .i64 m4_18.fWire, .int .i64 m4_18.fN, .str m4_18.fB]] : Store) ∧ law12_DecodeLists.j19 l7 x9 (law12_DecodeLists.l13 a0 a1 k13) m4_18 = some r) ?_ ?_
       · skip
         refine rg tok [0, 1, 5, 6, 7, 8, 40] fun K hK => ?_
         simp only [go_sem, reduceLT, reduceLeDiff, reduceEqDiff, reduceAdd, reduceMul, reduceSub, reduceIte, reduceCtorEq, evEq, t5, t16]
         refine hK _ _ ?_
         clear hK K
         refine awp_if rfl (fun hc22 => ?_) (fun hc22 => ?_)
         · skip
           rw [if_pos hc22] at h
           have t23 := eq_true hc22
           obtain ⟨y24, hy24, h⟩ := bind_some h
           have f25 := E24.idxS hy24
           have f26 := E24.fldS0 (f := 3) rfl rfl hy24
           refine rgE tok [0, 1, 5, 6, 7, 8] fun K hK => ?_
           simp only [go_sem, reduceLT, reduceLeDiff, reduceEqDiff, reduceAdd, reduceMul, reduceSub, reduceIte, reduceCtorEq, encGRaw, encI, t5, t16, t23, f25, f26]
           refine hK _ _ ?_
           clear hK K
           exact ⟨_, _, ⟨(⟨2, 0, y24, []⟩ : GRaw), rfl, rfl, h⟩, .s⟩
         · skip
           rw [if_neg hc22] at h
           have t27 := eq_false hc22
           obtain ⟨y28, hy28, h⟩ := bind_some h
           have f29 := E24.idxS hy28
           have f30 := E24.fldS0 (f := 3) rfl rfl hy28
           refine rgE tok [0, 1, 5, 6, 7, 8] fun K hK => ?_
           simp only [go_sem, reduceLT, reduceLeDiff, reduceEqDiff, reduceAdd, reduceMul, reduceSub, reduceIte, reduceCtorEq, evEq, encGRaw, encI, t5, t16, t27, f29, f30]
           refine hK _ _ ?_
           clear hK K
           exact ⟨_, _, ⟨(⟨2, 0, y28, []⟩ : GRaw), rfl, rfl, h⟩, .s⟩
       rintro _ _ ⟨m4_18, rfl, rfl, h⟩
       unfold law12_DecodeLists.j19 at h
       obtain ⟨_u20, hu20, h⟩ := bind_some h
       have gu20 := room_some hu20
       have f21 := (enc_length E22.len l7)
       refine rgE tok [0, 1, 5, 6, 7] fun K hK => ?_
       simp only [go_sem, reduceLT, reduceLeDiff, reduceEqDiff, reduceAdd, reduceMul, reduceSub, reduceIte, reduceCtorEq, evBuildSlice, zeroRun, List.range_succ, List.range_zero, Nat.zero_le, true_and, Nat.reduceMod, evAppend, evAppendTo, lenOfAV, encGRaw, t5, t16, gu20, f21, srcCells_o, List.all_nil, List.all_cons, AV.one, Bool.and_self, Bool.and_true, gt_iff_lt, setI_length, List.flatMap_append, List.flatMap_cons, List.flatMap_nil, List.append_nil, List.nil_append, List.length_append, List.length_cons, List.length_nil, Nat.zero_add, List.append_assoc, List.cons_append]
       refine hK _ _ ?_
       clear hK K
       refine hZ17 _ _ ?_
       refine rgE tok [0, 1, 5, 6, 7] fun K hK => ?_
       simp only [go_sem, reduceLT, reduceLeDiff, reduceEqDiff, reduceAdd, reduceMul, reduceSub, reduceIte, reduceCtorEq, evEq, t5, t16]
       refine hK _ _ ?_
       clear hK K
       exact ⟨_, _, _, Nat.lt_succ_self (0 + k13), ⟨k13, l7 ++ [m4_18], IntKind.i64.wrap (x9 + 1), v8 + 1, rfl, rfl, rfl, h⟩, (.t [0, 1, 2, 3] false)⟩
     · skip
       rw [if_neg hc15] at h
       have t31 := eq_false hc15
       refine awp_exit ?_
       refine hZ6 _ _ ?_
       refine rc [5, 6, 9, 10] fun K hK => ?_
       obtain ⟨r32, hr32, h⟩ := bind_some h
       refine opsRunN tok 1 ?_
       simp only [go_sem, reduceLT, reduceLeDiff, reduceEqDiff, reduceAdd, reduceMul, reduceSub, reduceIte, reduceCtorEq, t5, t31]
       refine ops_tellS (L := [(5, .op 2 0 0), (6, .ds true (List.flatMap encGRaw l7) (List.length l7) false), (59, .ds true (List.flatMap encGRaw l7) (List.length l7) false)]) (τ := [.cells 0 [.str [120], .int .i64 2, .int .i64 3, .int .i64 2, .str []], .cells 0 [.str [109], .os true 5 0 0 0 1 true, .ds true [] 0 true], .cells 0 [.str [97], .os true 3 1 0 0 1 true, .ds true [] 0 true, .ds true [] 0 true]]) (.t [0, 1, 2] false) ?_
       refine opsWp_callD rfl rfl rfl (wire_PutAll.ev l7 r32 hr32 _) ?_
       rintro _ _ ⟨rfl, rfl⟩
       refine opsRunN tok 5 ?_
       simp only [go_sem, reduceLT, reduceLeDiff, reduceEqDiff, reduceAdd, reduceMul, reduceSub, reduceIte, reduceCtorEq, t5, t31]
       refine opsWp_nil ?_
       simp only [thenQ_normal, keepS_cons, keepS_nil, updO, upd, reduceEqDiff, reduceIte, fs_cons, fs_nil]
       refine hK _ _ ?_
       clear hK K
       refine awp_seq_k fun Z33 hZ33 => ?_
       refine rg tok [5, 6, 9, 64] fun K hK => ?_
       simp only [go_sem, reduceLT, reduceLeDiff, reduceEqDiff, reduceAdd, reduceMul, reduceSub, reduceIte, reduceCtorEq, evEq, t5, t31]
       refine hK _ _ ?_
       clear hK K
       refine awp_if rfl (fun hc34 => ?_) (fun hc34 => ?_)
       · skip
         rw [if_neg hc34] at h
         have t35 := eq_false hc34
         refine rg tok [4] fun K hK => ?_
         simp only [go_sem, reduceLT, reduceLeDiff, reduceEqDiff, reduceAdd, reduceMul, reduceSub, reduceIte, reduceCtorEq, t5, t31, t35]
         refine hK _ _ ?_
         clear hK K
         refine awp_ret ?_
         obtain rfl := Option.some.inj h
         exact retA
       · skip
         rw [if_pos hc34] at h
         have t36 := eq_true hc34
         refine awp_skip ?_
         refine hZ33 _ _ ?_
         refine rc [6, 11, 12] fun K hK => ?_
         obtain ⟨r37, hr37, h⟩ := bind_some h
         refine opsRunN tok 2 ?_
         simp only [go_sem, reduceLT, reduceLeDiff, reduceEqDiff, reduceAdd, reduceMul, reduceSub, reduceIte, reduceCtorEq, encGSchema, t5, t31, t36]
         refine ops_tellS (L := [(6, .ds true (List.flatMap encGRaw l7) (List.length l7) false), (66, .agg [.str [97], .ds true (List.flatMap encGMessage [(⟨[109], [(⟨[120], 2, 3, (⟨2, []⟩ : GType)⟩ : GField)], ([] : List Int)⟩ : GMessage)]) (List.length [(⟨[109], [(⟨[120], 2, 3, (⟨2, []⟩ : GType)⟩ : GField)], ([] : List Int)⟩ : GMessage)]) false, .ds true (List.flatMap encGEnumeration ([] : List GEnumeration)) (List.length ([] : List GEnumeration)) false, .ds true (List.flatMap encGMethod ([] : List GMethod)) (List.length ([] : List GMethod)) false]), (67, .ds true (List.flatMap encB r32.1) (List.length r32.1) false)]) (τ := []) (.t [] true) ?_
         refine opsWp_callD rfl rfl rfl (ACalls.loose (decode_Decode.ev (⟨[97], [(⟨[109], [(⟨[120], 2, 3, (⟨2, []⟩ : GType)⟩ : GField)], ([] : List Int)⟩ : GMessage)], ([] : List GEnumeration), ([] : List GMethod)⟩ : GSchema) [109] r32.1 r37 hr37 _)) ?_
         rintro _ _ ⟨rfl, rfl⟩
         refine opsRunN tok 6 ?_
         simp only [go_sem, reduceLT, reduceLeDiff, reduceEqDiff, reduceAdd, reduceMul, reduceSub, reduceIte, reduceCtorEq, cellsGTree, encGSchema, encGTree_eq, t5, t31, t36]
         refine opsWp_nil ?_
         simp only [thenQ_normal, keepS_cons, keepS_nil, updO, upd, reduceEqDiff, reduceIte, fs_cons, fs_nil]
         refine hK _ _ ?_
         clear hK K
         refine awp_seq_k fun Z38 hZ38 => ?_
         refine rg tok [6, 11, 12, 73] fun K hK => ?_
         simp only [go_sem, reduceLT, reduceLeDiff, reduceEqDiff, reduceAdd, reduceMul, reduceSub, reduceIte, reduceCtorEq, evEq, t5, t31, t36]
         refine hK _ _ ?_
         clear hK K
         refine awp_if rfl (fun hc39 => ?_) (fun hc39 => ?_)
         · skip
           rw [if_pos hc39] at h
           have t40 := eq_true hc39
           refine rc [4] fun K hK => ?_
           refine opsRunN tok 3 ?_
           simp only [go_sem, reduceLT, reduceLeDiff, reduceEqDiff, reduceAdd, reduceMul, reduceSub, reduceIte, reduceCtorEq, evEq, t5, t31, t36, t40]
           obtain ⟨c41, hc41, h⟩ := bind_some h
           refine ops_join 2 (fun L τ => L = ([(78, .bool c41)] : List (Nat × AV)) ∧ τ = ([.cells 0 [.int .i64 r37.1.fKind, .int .i64 r37.1.fN, .str r37.1.fS, .ds true (List.flatMap encGEntry r37.1.fEntries) (List.length r37.1.fEntries) false, .ds true (List.flatMap encGRaw r37.1.fRest) (List.length r37.1.fRest) false]] : Store)) ?_ ?_
           · refine ops_if 76 rfl (fun hg76 => ?_) (fun hg76 => ?_)
             · skip
               have t42 := eq_true hg76
               rw [if_pos hg76] at hc41
               obtain ⟨r43, hr43, hc41⟩ := bind_some hc41
               refine opsWp_callD rfl rfl rfl (law12_awake.ev  r43 hr43 _) ?_
               rintro _ _ ⟨rfl, rfl⟩
               refine opsRunN tok 1 ?_
               simp only [go_sem, reduceLT, reduceLeDiff, reduceEqDiff, reduceAdd, reduceMul, reduceSub, reduceIte, reduceCtorEq, t5, t31, t36, t40]
               obtain rfl := Option.some.inj hc41
               refine opsWp_nil ⟨rfl, _, _, ⟨rfl, rfl⟩, .p t42⟩
             · skip
               have t44 := eq_false hg76
               rw [if_neg hg76] at hc41
               refine opsRunN tok 2 ?_
               simp only [go_sem, reduceLT, reduceLeDiff, reduceEqDiff, reduceAdd, reduceMul, reduceSub, reduceIte, reduceCtorEq, t5, t31, t36, t40]
               obtain rfl := Option.some.inj hc41
               refine opsWp_nil ⟨rfl, _, _, ⟨rfl, rfl⟩, .p t44⟩
           rintro _ _ ⟨rfl, rfl⟩
           refine opsRunN tok 1 ?_
           simp only [go_sem, reduceLT, reduceLeDiff, reduceEqDiff, reduceAdd, reduceMul, reduceSub, reduceIte, reduceCtorEq, t5, t31, t36, t40]
           refine opsWp_nil ?_
           simp only [thenQ_normal, keepS_cons, keepS_nil, updO, upd, reduceEqDiff, reduceIte, fs_cons, fs_nil]
           refine hK _ _ ?_
           clear hK K
           refine awp_ret ?_
           obtain rfl := Option.some.inj h
           exact retA
         · skip
           rw [if_neg hc39] at h
           have t45 := eq_false hc39
           refine awp_skip ?_
           refine hZ38 _ _ ?_
           refine awp_seq_k fun Z46 hZ46 => ?_
           refine rc [6, 11, 95] fun K hK => ?_
           refine opsRunN tok 3 ?_
           simp only [go_sem, reduceLT, reduceLeDiff, reduceEqDiff, reduceAdd, reduceMul, reduceSub, reduceIte, reduceCtorEq, evEq, t5, t31, t36, t45]
           refine ops_join 5 (fun L τ => L = ([(6, .ds true (List.flatMap encGRaw l7) (List.length l7) false), (11, .op 0 0 0), (86, .bool ((!(decide (r37.2 = 0))) || (!(decide ((List.length r37.1.fRest : Int) = 0)))))] : List (Nat × AV)) ∧ τ = ([.cells 0 [.int .i64 r37.1.fKind, .int .i64 r37.1.fN, .str r37.1.fS, .ds true (List.flatMap encGEntry r37.1.fEntries) (List.length r37.1.fEntries) false, .ds true (List.flatMap encGRaw r37.1.fRest) (List.length r37.1.fRest) false]] : Store)) ?_ ?_
           · refine ops_if 81 rfl (fun hg81 => ?_) (fun hg81 => ?_)
             · skip
               have t47 := eq_false hg81
               refine opsRunN tok 5 ?_
               simp only [go_sem, reduceLT, reduceLeDiff, reduceEqDiff, reduceAdd, reduceMul, reduceSub, reduceIte, reduceCtorEq, evEq, t5, t31, t36, t45]
               refine opsWp_nil ⟨rfl, _, _, ⟨rfl, rfl⟩, .p t47⟩
             · skip
               have t48 := eq_true hg81
               refine opsRunN tok 5 ?_
               simp only [go_sem, reduceLT, reduceLeDiff, reduceEqDiff, reduceAdd, reduceMul, reduceSub, reduceIte, reduceCtorEq, evEq, t5, t31, t36, t45]
               refine opsWp_nil ⟨rfl, _, _, ⟨rfl, rfl⟩, .p t48⟩
           rintro _ _ ⟨rfl, rfl⟩
           refine opsRunN tok 1 ?_
           simp only [go_sem, reduceLT, reduceLeDiff, reduceEqDiff, reduceAdd, reduceMul, reduceSub, reduceIte, reduceCtorEq, t5, t31, t36, t45]
           refine ops_join 8 (fun L τ => L = ([(6, .ds true (List.flatMap encGRaw l7) (List.length l7) false), (11, .op 0 0 0), (95, .bool (((!(decide (r37.2 = 0))) || (!(decide ((List.length r37.1.fRest : Int) = 0)))) || (!(decide ((List.length r37.1.fEntries : Int) = (if 1 < (List.length l7 : Int) then 1 else (List.length l7 : Int)))))))] : List (Nat × AV)) ∧ τ = ([.cells 0 [.int .i64 r37.1.fKind, .int .i64 r37.1.fN, .str r37.1.fS, .ds true (List.flatMap encGEntry r37.1.fEntries) (List.length r37.1.fEntries) false, .ds true (List.flatMap encGRaw r37.1.fRest) (List.length r37.1.fRest) false]] : Store)) ?_ ?_
           · refine opsWp_at (b := ((!(decide (r37.2 = 0))) || (!(decide ((List.length r37.1.fRest : Int) = 0))))) 87 rfl (fun hg87 => ?_) (fun hg87 => ?_)
             · skip
               refine opsRunN tok 8 ?_
               simp only [go_sem, reduceLT, reduceLeDiff, reduceEqDiff, reduceAdd, reduceMul, reduceSub, reduceIte, reduceCtorEq, evFold, foldO, evMin2, evEq, t5, t31, t36, t45]
               refine opsWp_nil ⟨rfl, _, _, ⟨rfl, rfl⟩, .b hg87⟩
             · skip
               refine opsRunN tok 8 ?_
               simp only [go_sem, reduceLT, reduceLeDiff, reduceEqDiff, reduceAdd, reduceMul, reduceSub, reduceIte, reduceCtorEq, evFold, foldO, evMin2, evEq, t5, t31, t36, t45]
               refine opsWp_nil ⟨rfl, _, _, ⟨rfl, rfl⟩, .b hg87⟩
           rintro _ _ ⟨rfl, rfl⟩
           refine opsWp_nil ?_
           simp only [thenQ_normal, keepS_cons, keepS_nil, updO, upd, reduceEqDiff, reduceIte, fs_cons, fs_nil]
           refine hK _ _ ?_
           clear hK K
           refine awp_cond (b := (((!(decide (r37.2 = 0))) || (!(decide ((List.length r37.1.fRest : Int) = 0)))) || (!(decide ((List.length r37.1.fEntries : Int) = (if 1 < (List.length l7 : Int) then 1 else (List.length l7 : Int))))))) rfl (fun hc49 => ?_) (fun hc49 => ?_)
           · skip
             rw [if_pos hc49] at h
             refine rg tok [4] fun K hK => ?_
             simp only [go_sem, reduceLT, reduceLeDiff, reduceEqDiff, reduceAdd, reduceMul, reduceSub, reduceIte, reduceCtorEq, t5, t31, t36, t45]
             refine hK _ _ ?_
             clear hK K
             refine awp_ret ?_
             obtain rfl := Option.some.inj h
             exact retA
           · skip
             rw [if_F hc49] at h
             refine awp_skip ?_
             refine hZ46 _ _ ?_
             refine awp_seq_k fun Z50 hZ50 => ?_
             refine rg tok [6, 11, 13] fun K hK => ?_
             simp only [go_sem, reduceLT, reduceLeDiff, reduceEqDiff, reduceAdd, reduceMul, reduceSub, reduceIte, reduceCtorEq, t5, t31, t36, t45]
             refine hK _ _ ?_
             clear hK K
             refine awp_block ?_
             refine awp_deep 6 fun hb53 => ?_
             replace hb53 : List.length l7 ≤ 9223372036854775807 := hb53.1
             refine awp_loopS (fun m L τ => ∃ (p53 q53 : List GRaw) (x51 : Int), m = List.length q53 ∧ L = ([(6, .ds true (List.flatMap encGRaw l7) (List.length l7) false), (11, .op 0 0 0), (13, .int .i64 x51)] : List (Nat × AV)) ∧ τ = ([.cells 0 [.int .i64 r37.1.fKind, .int .i64 r37.1.fN, .str r37.1.fS, .ds true (List.flatMap encGEntry r37.1.fEntries) (List.length r37.1.fEntries) false, .ds true (List.flatMap encGRaw r37.1.fRest) (List.length r37.1.fRest) false]] : Store) ∧ l7 = p53 ++ q53 ∧ x51 = (List.length p53 : Int) ∧ law12_DecodeLists.l53 l7 r37 q53 x51 = some r) _ ⟨[], l7, 0, rfl, rfl, rfl, rfl, rfl, h⟩ .s ?_
             rintro m L τ ⟨p53, q53, x51, rfl, rfl, rfl, hE53, hi53, h⟩
             rcases q53 with _ | ⟨y53, q53⟩
             · have hz53 := zip_nil hE53 hi53
               simp only [law12_DecodeLists.l53] at h
               refine awp_seq_k fun Z54 hZ54 => ?_
               refine rg tok [6, 11, 13, 99] fun K hK => ?_
               simp only [go_sem, reduceLT, reduceLeDiff, reduceEqDiff, reduceAdd, reduceMul, reduceSub, reduceIte, reduceCtorEq, evEq, t5, t31, t36, t45, hz53]
               refine hK _ _ ?_
               clear hK K
               refine awp_cond_f rfl ?_
               refine awp_exit ?_
               refine hZ50 _ _ ?_
               refine rc [4] fun K hK => ?_
               obtain ⟨r55, hr55, h⟩ := bind_some h
               refine opsWp_callD rfl rfl rfl (law12_awake.ev  r55 hr55 _) ?_
               rintro _ _ ⟨rfl, rfl⟩
               refine opsRunN tok 1 ?_
               simp only [go_sem, reduceLT, reduceLeDiff, reduceEqDiff, reduceAdd, reduceMul, reduceSub, reduceIte, reduceCtorEq, t5, t31, t36, t45, hz53]
               refine opsWp_nil ?_
               simp only [thenQ_normal, keepS_cons, keepS_nil, updO, upd, reduceEqDiff, reduceIte, fs_cons, fs_nil]
               refine hK _ _ ?_
               clear hK K
               refine awp_ret ?_
               obtain rfl := Option.some.inj h
               exact retA
             · obtain ⟨hz53, hw53, hx53, hE'53, hi'53⟩ := zip_cons hE53 hi53 hb53
               simp only [law12_DecodeLists.l53] at h
               refine awp_seq_k fun Z56 hZ56 => ?_
               refine rg tok [6, 11, 13, 99] fun K hK => ?_
               simp only [go_sem, reduceLT, reduceLeDiff, reduceEqDiff, reduceAdd, reduceMul, reduceSub, reduceIte, reduceCtorEq, evEq, t5, t31, t36, t45, hz53, hw53]
               refine hK _ _ ?_
               clear hK K
               refine awp_cond_t rfl ?_
               refine awp_skip ?_
               refine hZ56 _ _ ?_
               refine awp_seq_k fun Z57 hZ57 => ?_
               refine awp_block ?_
               refine awp_join (fun L τ => ∃ (x58 : Bool), L = ([(6, .ds true (List.flatMap encGRaw l7) (List.length l7) false), (11, .op 0 0 0), (13, .int .i64 x51), (127, .bool x58)] : List (Nat × AV)) ∧ τ = ([.cells 0 [.int .i64 r37.1.fKind, .int .i64 r37.1.fN, .str r37.1.fS, .ds true (List.flatMap encGEntry r37.1.fEntries) (List.length r37.1.fEntries) false, .ds true (List.flatMap encGRaw r37.1.fRest) (List.length r37.1.fRest) false]] : Store) ∧ law12_DecodeLists.j59 x51 (law12_DecodeLists.l53 l7 r37 q53) x58 = some r) ?_ ?_
               · skip
                 refine rdE [6, 11, 13, 127] fun K hK => ?_
                 refine DW.start (T := tab) [.any, .at [], .any, .any, .at [], .at [], .any, .at [], .any, .any, .any, .at [], .any, .any, .at [], .any, .any, .any, .at [], .any, .any, .any, .any, .at [], .any, .any] [] ?_
                 obtain ⟨y61, hy61, h⟩ := bind_some h
                 have f62 := E40.idxS hy61
                 have f63 := E40.fldS (f := 59) rfl rfl hy61 (o := 1) (by decide)
                 refine DW.runN tok 8 ?_
                 simp only [go_sem, reduceLT, reduceLeDiff, reduceEqDiff, reduceAdd, reduceMul, reduceSub, reduceIte, reduceCtorEq, cellsGEntry, encGEntry_eq, t5, t31, t36, t45, hz53, hw53, f62, f63]
                 refine DW.runN tok 2 ?_
                 simp only [go_sem, reduceLT, reduceLeDiff, reduceEqDiff, reduceAdd, reduceMul, reduceSub, reduceIte, reduceCtorEq, evEq, cellsGEntry, encGEntry_eq, t5, t31, t36, t45, hz53, hw53, f62, f63]
                 refine DW.if 111 rfl (fun hg111 => ?_) (fun hg111 => ?_)
                 · skip
                   rw [if_neg hg111] at h
                   have t64 := eq_false hg111
                   refine DW.runN tok 8 ?_
                   simp only [go_sem, reduceLT, reduceLeDiff, reduceEqDiff, reduceAdd, reduceMul, reduceSub, reduceIte, reduceCtorEq, cellsGEntry, encGEntry_eq, t5, t31, t36, t45, hz53, hw53, t64]
                   refine DW.runN tok 8 ?_
                   simp only [go_sem, reduceLT, reduceLeDiff, reduceEqDiff, reduceAdd, reduceMul, reduceSub, reduceIte, reduceCtorEq, evEq, cellsGEntry, encGEntry_eq, t5, t31, t36, t45, hz53, hw53, t64]
                   refine DW.fin tok (by decide +kernel) rfl ?_
                   simp only [thenQ_normal, keepS_cons, keepS_nil, updO, upd, reduceEqDiff, reduceIte, fs_cons, fs_nil]
                   refine hK _ _ ?_
                   clear hK K
                   exact ⟨_, _, ⟨true, rfl, rfl, h⟩, .s⟩
                 · skip
                   rw [if_pos hg111] at h
                   have t65 := eq_true hg111
                   have f66 := E40.idxS hy61
                   have f67 := E40.fldS (f := 59) rfl rfl hy61 (o := 1) (by decide)
                   obtain ⟨y68, hy68, h⟩ := bind_some h
                   have f69 := E59.idxS hy68
                   have f70 := E59.fldS (f := 3) rfl rfl hy68 (o := 1) (by decide)
                   have f71 := E22.idxS hx53
                   have f72 := E22.fldS (f := 3) rfl rfl hx53 (o := 2) (by decide)
                   refine DW.runN tok 8 ?_
                   simp only [go_sem, reduceLT, reduceLeDiff, reduceEqDiff, reduceAdd, reduceMul, reduceSub, reduceIte, reduceCtorEq, cellsGEntry, cellsGTree, encGEntry_eq, encGRaw, encGTree_eq, t5, t31, t36, t45, hz53, hw53, t65, f66, f67, f69, f70, f71, f72]
                   refine DW.runN tok 8 ?_
                   simp only [go_sem, reduceLT, reduceLeDiff, reduceEqDiff, reduceAdd, reduceMul, reduceSub, reduceIte, reduceCtorEq, evEq, cellsGEntry, cellsGTree, encGEntry_eq, encGRaw, encGTree_eq, t5, t31, t36, t45, hz53, hw53, t65, f66, f67, f69, f70, f71, f72]
                   refine DW.fin tok (by decide +kernel) rfl ?_
                   simp only [thenQ_normal, keepS_cons, keepS_nil, updO, upd, reduceEqDiff, reduceIte, fs_cons, fs_nil]
                   refine hK _ _ ?_
                   clear hK K
                   exact ⟨_, _, ⟨!(decide (y68.fN = y53.fN)), rfl, rfl, h⟩, .s⟩
               rintro _ _ ⟨x58, rfl, rfl, h⟩
               unfold law12_DecodeLists.j59 at h
               refine awp_cond (b := x58) rfl (fun hc60 => ?_) (fun hc60 => ?_)
               · skip
                 rw [if_pos hc60] at h
                 refine rg tok [4] fun K hK => ?_
                 simp only [go_sem, reduceLT, reduceLeDiff, reduceEqDiff, reduceAdd, reduceMul, reduceSub, reduceIte, reduceCtorEq, t5, t31, t36, t45, hz53, hw53]
                 refine hK _ _ ?_
                 clear hK K
                 refine awp_ret ?_
                 obtain rfl := Option.some.inj h
                 exact retA
               · skip
                 rw [if_F hc60] at h
                 refine awp_skip ?_
                 refine hZ57 _ _ ?_
                 refine rgE tok [6, 11, 13] fun K hK => ?_
                 simp only [go_sem, reduceLT, reduceLeDiff, reduceEqDiff, reduceAdd, reduceMul, reduceSub, reduceIte, reduceCtorEq, evEq, t5, t31, t36, t45, hz53, hw53]
                 refine hK _ _ ?_
                 clear hK K
                 exact ⟨_, _, _, Nat.lt_succ_self q53.length, ⟨p53 ++ [y53], q53, x51 + 1, rfl, rfl, rfl, hE'53, hi'53, h⟩, .s⟩
end Go.Proofs.YtaddlmlpeghonaaDoor
