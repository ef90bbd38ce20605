/- PlanWide: what its function answers. -/
import Derived.Test.YtplddidoobjcnaaPp
set_option maxRecDepth 4000
set_option maxHeartbeats 2000000
set_option linter.unusedSimpArgs false
set_option linter.unusedVariables false
set_option linter.constructorNameAsVariable false
namespace Go.Proofs.Ytplddidoobjcnaa
open AM

theorem wide_pc (vs ts : List Int) (es : List Ed) (hv : vs.length < 9223372036854775808) (ht : ts.length < 9223372036854775808) (he : es.length < 9223372036854775808) : ACalls Try.prog 9 [.ds true (vs.flatMap encI) vs.length false, .ds true (ts.flatMap encI) ts.length false, .ds true (es.flatMap encE) es.length false] [] (fun r _ => r = .bool true) := by
  refine acalls_pure (rs := [.tmp 6]) tok Try.func9 rfl Try.ntmps9 rfl Try.call9 (by simp) ?_
  refine reg tok [true, true, true] fun K hK => ?_
  simp only [go_sem, Nat.reduceLT, Nat.reduceLeDiff, Nat.reduceEqDiff, Nat.reduceAdd, Nat.reduceMul, Nat.reduceSub, reduceIte, reduceCtorEq, encE]
  refine hK _ _ ?_
  clear hK K
  refine reg tok [true, true, true, false, false, false, false, true] fun K hK => ?_
  simp only [go_sem, Nat.reduceLT, Nat.reduceLeDiff, Nat.reduceEqDiff, Nat.reduceAdd, Nat.reduceMul, Nat.reduceSub, reduceIte, reduceCtorEq, encE]
  refine hK _ _ ?_
  clear hK K
  refine reg tok [true, true, true, false, false, false, false, true, true] fun K hK => ?_
  simp only [go_sem, Nat.reduceLT, Nat.reduceLeDiff, Nat.reduceEqDiff, Nat.reduceAdd, Nat.reduceMul, Nat.reduceSub, reduceIte, reduceCtorEq, encE]
  refine hK _ _ ?_
  clear hK K
  refine reg tok [true, true, true, false, false, false, false, true, true, true] fun K hK => ?_
  simp only [go_sem, Nat.reduceLT, Nat.reduceLeDiff, Nat.reduceEqDiff, Nat.reduceAdd, Nat.reduceMul, Nat.reduceSub, reduceIte, reduceCtorEq, encE]
  refine hK _ _ ?_
  clear hK K
  refine awp_seq_k fun Z1 hZ1 => ?_
  refine reg tok [true, true, true, false, false, false, false, true, true, true, true] fun K hK => ?_
  simp only [go_sem, Nat.reduceLT, Nat.reduceLeDiff, Nat.reduceEqDiff, Nat.reduceAdd, Nat.reduceMul, Nat.reduceSub, reduceIte, reduceCtorEq, encE]
  refine hK _ _ ?_
  clear hK K
  refine awp_virt 7 3 rfl ?_
  simp only [go_sem]
  refine awp_virt 8 1 rfl ?_
  simp only [go_sem]
  refine awp_block ?_
  refine awp_loopT (fun m L τ => ∃ (i v1 v2 : Nat) (n : List Nd) (wl : List Int) (al : Int), m = 7 - i ∧ L = ([(.ds true (vs.flatMap encI) vs.length false), (.ds true (ts.flatMap encI) ts.length false), (.ds true (es.flatMap encE) es.length false), .u, .u, .u, .u, (.os true 3 0 v1 0 n.length false), (.os true 1 1 v2 0 wl.length false), (.int .i64 al), (.int .i64 i)] : List AV) ∧ τ = ([.cells v1 (n.flatMap encN), .cells v2 (wl.flatMap encI)] : Store) ∧ n.length = i ∧ Wide n ∧ wl = wantF n 0 ∧ al = prodS n) _ ⟨0, 0, 0, [], [], 1, rfl, rfl, rfl, by exact ⟨rfl, ⟨by decide, rfl, fun x hx => by cases hx⟩, rfl, rfl⟩⟩ ?_ ?_
  · exact Tells.mk' [0, 1] false 12 (by decide) (by simp) (by first | rfl | simp) (by first | rfl | simp [tell_u, tell_bool, tell_int, tell_str, tell_nilp, tell_nilm, tell_nilI, tell_nilF, tell_agg, tell_tup, tell_ifc, tell_ds, tell_dp, tell_op, tell_os, tell_mp, idxOf_nil, idxOf_cons, tellS_nil, tellS_cons, tellO_cells, tellO_map, tellO_iter, tellO_dead, store_get0, store_getS, tell_canonL, tell_canon, canonL, AV.canon, Bool.or_true, Bool.or_false, Bool.and_true, Bool.and_false, Bool.not_true, Bool.not_false, Option.some.injEq, canonL_N, canonL_E, canonL_encI, encI, encN, encE]) ⟨.inr (by first | exact tell_canon _ _ _ (.ds true (vs.flatMap encI) vs.length false) 12 (by simp [AV.canon, canonL, canonL_N, canonL_E, canonL_encI, encI, encN, encE]) | rfl | simp [go_sem, tell_u, tell_bool, tell_int, tell_str, tell_nilp, tell_nilm, tell_nilI, tell_nilF, tell_agg, tell_tup, tell_ifc, tell_ds, tell_dp, tell_op, tell_os, tell_mp, idxOf_nil, idxOf_cons, tellS_nil, tellS_cons, tellO_cells, tellO_map, tellO_iter, tellO_dead, store_get0, store_getS, tell_canonL, tell_canon, canonL, AV.canon, Bool.or_true, Bool.or_false, Bool.and_true, Bool.and_false, Bool.not_true, Bool.not_false, Option.some.injEq, canonL_N, canonL_E, canonL_encI, encI, encN, encE]), .inr (by first | exact tell_canon _ _ _ (.ds true (ts.flatMap encI) ts.length false) 12 (by simp [AV.canon, canonL, canonL_N, canonL_E, canonL_encI, encI, encN, encE]) | rfl | simp [go_sem, tell_u, tell_bool, tell_int, tell_str, tell_nilp, tell_nilm, tell_nilI, tell_nilF, tell_agg, tell_tup, tell_ifc, tell_ds, tell_dp, tell_op, tell_os, tell_mp, idxOf_nil, idxOf_cons, tellS_nil, tellS_cons, tellO_cells, tellO_map, tellO_iter, tellO_dead, store_get0, store_getS, tell_canonL, tell_canon, canonL, AV.canon, Bool.or_true, Bool.or_false, Bool.and_true, Bool.and_false, Bool.not_true, Bool.not_false, Option.some.injEq, canonL_N, canonL_E, canonL_encI, encI, encN, encE]), .inr (by first | exact tell_canon _ _ _ (.ds true (es.flatMap encE) es.length false) 12 (by simp [AV.canon, canonL, canonL_N, canonL_E, canonL_encI, encI, encN, encE]) | rfl | simp [go_sem, tell_u, tell_bool, tell_int, tell_str, tell_nilp, tell_nilm, tell_nilI, tell_nilF, tell_agg, tell_tup, tell_ifc, tell_ds, tell_dp, tell_op, tell_os, tell_mp, idxOf_nil, idxOf_cons, tellS_nil, tellS_cons, tellO_cells, tellO_map, tellO_iter, tellO_dead, store_get0, store_getS, tell_canonL, tell_canon, canonL, AV.canon, Bool.or_true, Bool.or_false, Bool.and_true, Bool.and_false, Bool.not_true, Bool.not_false, Option.some.injEq, canonL_N, canonL_E, canonL_encI, encI, encN, encE]), .inl rfl, .inl rfl, .inl rfl, .inl rfl, .inr (by first | rfl | simp [go_sem, tell_u, tell_bool, tell_int, tell_str, tell_nilp, tell_nilm, tell_nilI, tell_nilF, tell_agg, tell_tup, tell_ifc, tell_ds, tell_dp, tell_op, tell_os, tell_mp, idxOf_nil, idxOf_cons, tellS_nil, tellS_cons, tellO_cells, tellO_map, tellO_iter, tellO_dead, store_get0, store_getS, tell_canonL, tell_canon, canonL, AV.canon, Bool.or_true, Bool.or_false, Bool.and_true, Bool.and_false, Bool.not_true, Bool.not_false, Option.some.injEq]), .inr (by first | rfl | simp [go_sem, tell_u, tell_bool, tell_int, tell_str, tell_nilp, tell_nilm, tell_nilI, tell_nilF, tell_agg, tell_tup, tell_ifc, tell_ds, tell_dp, tell_op, tell_os, tell_mp, idxOf_nil, idxOf_cons, tellS_nil, tellS_cons, tellO_cells, tellO_map, tellO_iter, tellO_dead, store_get0, store_getS, tell_canonL, tell_canon, canonL, AV.canon, Bool.or_true, Bool.or_false, Bool.and_true, Bool.and_false, Bool.not_true, Bool.not_false, Option.some.injEq]), .inr (by first | exact tell_canon _ _ _ (.int .i64 al) 12 (by simp [AV.canon, canonL, canonL_N, canonL_E, canonL_encI, encI, encN, encE]) | rfl | simp [go_sem, tell_u, tell_bool, tell_int, tell_str, tell_nilp, tell_nilm, tell_nilI, tell_nilF, tell_agg, tell_tup, tell_ifc, tell_ds, tell_dp, tell_op, tell_os, tell_mp, idxOf_nil, idxOf_cons, tellS_nil, tellS_cons, tellO_cells, tellO_map, tellO_iter, tellO_dead, store_get0, store_getS, tell_canonL, tell_canon, canonL, AV.canon, Bool.or_true, Bool.or_false, Bool.and_true, Bool.and_false, Bool.not_true, Bool.not_false, Option.some.injEq, canonL_N, canonL_E, canonL_encI, encI, encN, encE]), .inr (by first | exact tell_canon _ _ _ (.int .i64 i) 12 (by simp [AV.canon, canonL, canonL_N, canonL_E, canonL_encI, encI, encN, encE]) | rfl | simp [go_sem, tell_u, tell_bool, tell_int, tell_str, tell_nilp, tell_nilm, tell_nilI, tell_nilF, tell_agg, tell_tup, tell_ifc, tell_ds, tell_dp, tell_op, tell_os, tell_mp, idxOf_nil, idxOf_cons, tellS_nil, tellS_cons, tellO_cells, tellO_map, tellO_iter, tellO_dead, store_get0, store_getS, tell_canonL, tell_canon, canonL, AV.canon, Bool.or_true, Bool.or_false, Bool.and_true, Bool.and_false, Bool.not_true, Bool.not_false, Option.some.injEq, canonL_N, canonL_E, canonL_encI, encI, encN, encE]), trivial⟩
  rintro m L τ ⟨i, v1, v2, n, wl, al, rfl, rfl, rfl, hni, hW, hwl0, hal⟩
  refine awp_seq_k fun Z2 hZ2 => ?_
  refine awp_seq_k fun K hK => ?_
  refine awp_region ?_
  refine opsRunN tok 5 ?_
  simp only [go_sem, Nat.reduceLT, Nat.reduceLeDiff, Nat.reduceEqDiff, Nat.reduceAdd, Nat.reduceMul, Nat.reduceSub, reduceIte, reduceCtorEq, encE]
  refine ops_if 22 rfl (fun hg22 => ?_) (fun hg22 => ?_)
  · skip
    refine opsRunN tok 6 ?_
    simp only [go_sem, Nat.reduceLT, Nat.reduceLeDiff, Nat.reduceEqDiff, Nat.reduceAdd, Nat.reduceMul, Nat.reduceSub, reduceIte, reduceCtorEq, encE]
    refine ops_if 28 rfl (fun hg28 => ?_) (fun hg28 => ?_)
    · skip
      refine opsRunN tok 3 ?_
      simp only [go_sem, Nat.reduceLT, Nat.reduceLeDiff, Nat.reduceEqDiff, Nat.reduceAdd, Nat.reduceMul, Nat.reduceSub, reduceIte, reduceCtorEq, encE]
      refine opsWp_nil ?_
      refine hK _ _ (awp_keepM [true, true, true, false, false, false, false, true, true, true, true, false, false, false, false, false, false, false, false, false, false, false, false, false, false, false, false, false, false, false, false, true] ?_)
      clear hK K
      try simp only [go_sem, Nat.reduceLT, Nat.reduceLeDiff, Nat.reduceEqDiff, Nat.reduceAdd, Nat.reduceMul, Nat.reduceSub, reduceIte, reduceCtorEq]
      refine awp_if rfl (fun hcc5 => ?_) (fun hcc5 => ?_)
      · skip
        refine awp_skip ?_
        refine hZ2 _ _ ?_
        refine awp_seq_k fun Z3 hZ3 => ?_
        refine awp_block ?_
        have hi6 : i < 6 := by omega
        have hiv : i < vs.length := by omega
        have hit : i < ts.length := by omega
        have hwi : IntKind.i64.wrap ((i : Int) + 1) = ((i + 1 : Nat) : Int) := by rw [i64_in (by omega) (by omega)]; simp
        have jl : ∀ nl tt q, evIndexAddr tab 34 (.ds nl (vs.flatMap encI) vs.length tt) (.int q i) = some (.dp (vs.flatMap encI) i) := fun nl tt q => by
          have := encI_E.idx (l := vs) (k := (i : Int)) (by omega) (by omega) nl tt q
          rwa [Int.toNat_natCast, Nat.mul_one] at this
        have jr : ∀ σ, evLoad tab 3 (.dp (vs.flatMap encI) i) σ = some (.int .i64 vs[i]) := fun σ => by
          have := encI_E.fld0 (f := 3) rfl rfl hiv σ
          rw [Nat.mul_one] at this; exact this
        have jl2 : ∀ nl tt q, evIndexAddr tab 34 (.ds nl (ts.flatMap encI) ts.length tt) (.int q i) = some (.dp (ts.flatMap encI) i) := fun nl tt q => by
          have := encI_E.idx (l := ts) (k := (i : Int)) (by omega) (by omega) nl tt q
          rwa [Int.toNat_natCast, Nat.mul_one] at this
        have jr2 : ∀ σ, evLoad tab 3 (.dp (ts.flatMap encI) i) σ = some (.int .i64 ts[i]) := fun σ => by
          have := encI_E.fld0 (f := 3) rfl rfl hit σ
          rw [Nat.mul_one] at this; exact this
        obtain ⟨p, hp, hp0, hp1⟩ := place_lt vs[i] 4 (by decide) (by decide)
        obtain ⟨q, hq, hq0, hq1⟩ := place_lt ts[i] 4 (by decide) (by decide)
        have w1 : IntKind.i64.wrap (1 + p) = 1 + p := i64_in (by omega) (by omega)
        have w2 : IntKind.i64.wrap (1 + p + q) = 1 + p + q := i64_in (by omega) (by omega)
        have w3 : IntKind.i64.wrap (1 + p + q - (1 + p)) = 1 + p + q - (1 + p) := i64_in (by omega) (by omega)
        have w4 : IntKind.i64.wrap (1 + p + q - (1 + p) + 1) = 1 + p + q - (1 + p) + 1 := i64_in (by omega) (by omega)
        have hWn := hW.snoc (v := 1 + p) (t := 1 + p + q) (by omega) (by omega) (by omega)
        have hps : prodS (n ++ [(⟨1 + p, 1 + p + q, 12⟩ : Nd)]) = al * (1 + p + q - (1 + p) + 1) := by rw [prodS_snoc, hal]
        have hpr : 1 ≤ al * (1 + p + q - (1 + p) + 1) ∧ al * (1 + p + q - (1 + p) + 1) ≤ 4096 := by rw [← hps]; exact hWn.prod
        have w5 : IntKind.i64.wrap (al * (1 + p + q - (1 + p) + 1)) = al * (1 + p + q - (1 + p) + 1) := i64_in (by omega) (by omega)
        have a1 : ((n.length + 1) * 24 ≤ 140737488355328) = True := eq_true (by omega)
        have a2 : (n.flatMap encN).length = n.length * 3 := enc_length (enc := encN) (sz := 3) (fun _ => rfl) _
        refine awp_seq_k fun K hK => ?_
        refine awp_region ?_
        refine opsRunN tok 4 ?_
        simp only [go_sem, Nat.reduceLT, Nat.reduceLeDiff, Nat.reduceEqDiff, Nat.reduceAdd, Nat.reduceMul, Nat.reduceSub, reduceIte, reduceCtorEq, encE, jl, jr, w1]
        refine opsWp_callD rfl rfl rfl (place_pc_ev vs[i] 4 (by decide) _) ?_
        rw [hp]; rintro _ _ ⟨rfl, rfl⟩
        refine opsRunN tok 2 ?_
        simp only [go_sem, Nat.reduceLT, Nat.reduceLeDiff, Nat.reduceEqDiff, Nat.reduceAdd, Nat.reduceMul, Nat.reduceSub, reduceIte, reduceCtorEq, encE, jl, jr, w1]
        refine opsWp_nil ?_
        refine hK _ _ (awp_keepM [true, true, true, false, false, false, false, true, true, true, true, true] ?_)
        clear hK K
        try simp only [go_sem, Nat.reduceLT, Nat.reduceLeDiff, Nat.reduceEqDiff, Nat.reduceAdd, Nat.reduceMul, Nat.reduceSub, reduceIte, reduceCtorEq]
        refine awp_seq_k fun K hK => ?_
        refine awp_region ?_
        refine opsRunN tok 5 ?_
        simp only [go_sem, Nat.reduceLT, Nat.reduceLeDiff, Nat.reduceEqDiff, Nat.reduceAdd, Nat.reduceMul, Nat.reduceSub, reduceIte, reduceCtorEq, encE, jl2, jr2, w2]
        refine opsWp_callD rfl rfl rfl (place_pc_ev ts[i] 4 (by decide) _) ?_
        rw [hq]; rintro _ _ ⟨rfl, rfl⟩
        refine opsRunN tok 2 ?_
        simp only [go_sem, Nat.reduceLT, Nat.reduceLeDiff, Nat.reduceEqDiff, Nat.reduceAdd, Nat.reduceMul, Nat.reduceSub, reduceIte, reduceCtorEq, encE, jl2, jr2, w2]
        refine opsWp_nil ?_
        refine hK _ _ (awp_keepM [true, true, true, false, false, false, false, true, true, true, true, true, true] ?_)
        clear hK K
        try simp only [go_sem, Nat.reduceLT, Nat.reduceLeDiff, Nat.reduceEqDiff, Nat.reduceAdd, Nat.reduceMul, Nat.reduceSub, reduceIte, reduceCtorEq]
        refine reg tok [true, true, true, false, false, false, false, true, true, true, true, true, true] fun K hK => ?_
        simp only [go_sem, Nat.reduceLT, Nat.reduceLeDiff, Nat.reduceEqDiff, Nat.reduceAdd, Nat.reduceMul, Nat.reduceSub, reduceIte, reduceCtorEq, evBuildSlice, zeroRun, evAppendTo, lenOfAV, srcCells, encE, evAppend, a1, a2, List.range_succ, List.range_zero, true_and, Nat.reduceMod, encN_one]
        refine hK _ _ ?_
        clear hK K
        refine reg tok [true, true, true, false, false, false, false, true, true, true, true, true, true] fun K hK => ?_
        simp only [go_sem, Nat.reduceLT, Nat.reduceLeDiff, Nat.reduceEqDiff, Nat.reduceAdd, Nat.reduceMul, Nat.reduceSub, reduceIte, reduceCtorEq, encE, w3, w4, w5]
        refine hK _ _ ?_
        clear hK K
        refine reg tok [true, true, true, false, false, false, false, true, true, true, true, false, true, true] fun K hK => ?_
        simp only [go_sem, Nat.reduceLT, Nat.reduceLeDiff, Nat.reduceEqDiff, Nat.reduceAdd, Nat.reduceMul, Nat.reduceSub, reduceIte, reduceCtorEq, encE]
        refine hK _ _ ?_
        clear hK K
        refine awp_block ?_
        refine awp_loopT (fun m L τ => ∃ (j v2' : Nat) (w : List Int), m = 5 - j ∧ L = ([(.ds true (vs.flatMap encI) vs.length false), (.ds true (ts.flatMap encI) ts.length false), (.ds true (es.flatMap encE) es.length false), .u, .u, .u, .u, (.os true 3 0 (v1 + 1) 0 (n.length + 1) false), (.os true 1 1 v2' 0 w.length false), (.int .i64 (al * (1 + p + q - (1 + p) + 1))), (.int .i64 i), .u, (.int .i64 (1 + p + q)), (.int .i64 (1 + p + (j : Int)))] : List AV) ∧ τ = ([.cells (v1 + 1) ((n ++ [(⟨1 + p, 1 + p + q, 12⟩ : Nd)]).flatMap encN), .cells v2' (w.flatMap encI)] : Store) ∧ (j : Int) ≤ q ∧ w = wl ++ List.replicate j (i : Int)) _ ⟨0, v2, wl, rfl, rfl, rfl, by exact ⟨by omega, by simp⟩⟩ ?_ ?_
        · exact Tells.mk' [0, 1] false 12 (by decide) (by simp) (by first | rfl | simp) (by first | rfl | simp [tell_u, tell_bool, tell_int, tell_str, tell_nilp, tell_nilm, tell_nilI, tell_nilF, tell_agg, tell_tup, tell_ifc, tell_ds, tell_dp, tell_op, tell_os, tell_mp, idxOf_nil, idxOf_cons, tellS_nil, tellS_cons, tellO_cells, tellO_map, tellO_iter, tellO_dead, store_get0, store_getS, tell_canonL, tell_canon, canonL, AV.canon, Bool.or_true, Bool.or_false, Bool.and_true, Bool.and_false, Bool.not_true, Bool.not_false, Option.some.injEq, canonL_N, canonL_E, canonL_encI, encI, encN, encE]) ⟨.inr (by first | exact tell_canon _ _ _ (.ds true (vs.flatMap encI) vs.length false) 12 (by simp [AV.canon, canonL, canonL_N, canonL_E, canonL_encI, encI, encN, encE]) | rfl | simp [go_sem, tell_u, tell_bool, tell_int, tell_str, tell_nilp, tell_nilm, tell_nilI, tell_nilF, tell_agg, tell_tup, tell_ifc, tell_ds, tell_dp, tell_op, tell_os, tell_mp, idxOf_nil, idxOf_cons, tellS_nil, tellS_cons, tellO_cells, tellO_map, tellO_iter, tellO_dead, store_get0, store_getS, tell_canonL, tell_canon, canonL, AV.canon, Bool.or_true, Bool.or_false, Bool.and_true, Bool.and_false, Bool.not_true, Bool.not_false, Option.some.injEq, canonL_N, canonL_E, canonL_encI, encI, encN, encE]), .inr (by first | exact tell_canon _ _ _ (.ds true (ts.flatMap encI) ts.length false) 12 (by simp [AV.canon, canonL, canonL_N, canonL_E, canonL_encI, encI, encN, encE]) | rfl | simp [go_sem, tell_u, tell_bool, tell_int, tell_str, tell_nilp, tell_nilm, tell_nilI, tell_nilF, tell_agg, tell_tup, tell_ifc, tell_ds, tell_dp, tell_op, tell_os, tell_mp, idxOf_nil, idxOf_cons, tellS_nil, tellS_cons, tellO_cells, tellO_map, tellO_iter, tellO_dead, store_get0, store_getS, tell_canonL, tell_canon, canonL, AV.canon, Bool.or_true, Bool.or_false, Bool.and_true, Bool.and_false, Bool.not_true, Bool.not_false, Option.some.injEq, canonL_N, canonL_E, canonL_encI, encI, encN, encE]), .inr (by first | exact tell_canon _ _ _ (.ds true (es.flatMap encE) es.length false) 12 (by simp [AV.canon, canonL, canonL_N, canonL_E, canonL_encI, encI, encN, encE]) | rfl | simp [go_sem, tell_u, tell_bool, tell_int, tell_str, tell_nilp, tell_nilm, tell_nilI, tell_nilF, tell_agg, tell_tup, tell_ifc, tell_ds, tell_dp, tell_op, tell_os, tell_mp, idxOf_nil, idxOf_cons, tellS_nil, tellS_cons, tellO_cells, tellO_map, tellO_iter, tellO_dead, store_get0, store_getS, tell_canonL, tell_canon, canonL, AV.canon, Bool.or_true, Bool.or_false, Bool.and_true, Bool.and_false, Bool.not_true, Bool.not_false, Option.some.injEq, canonL_N, canonL_E, canonL_encI, encI, encN, encE]), .inl rfl, .inl rfl, .inl rfl, .inl rfl, .inr (by first | rfl | simp [go_sem, tell_u, tell_bool, tell_int, tell_str, tell_nilp, tell_nilm, tell_nilI, tell_nilF, tell_agg, tell_tup, tell_ifc, tell_ds, tell_dp, tell_op, tell_os, tell_mp, idxOf_nil, idxOf_cons, tellS_nil, tellS_cons, tellO_cells, tellO_map, tellO_iter, tellO_dead, store_get0, store_getS, tell_canonL, tell_canon, canonL, AV.canon, Bool.or_true, Bool.or_false, Bool.and_true, Bool.and_false, Bool.not_true, Bool.not_false, Option.some.injEq]), .inr (by first | rfl | simp [go_sem, tell_u, tell_bool, tell_int, tell_str, tell_nilp, tell_nilm, tell_nilI, tell_nilF, tell_agg, tell_tup, tell_ifc, tell_ds, tell_dp, tell_op, tell_os, tell_mp, idxOf_nil, idxOf_cons, tellS_nil, tellS_cons, tellO_cells, tellO_map, tellO_iter, tellO_dead, store_get0, store_getS, tell_canonL, tell_canon, canonL, AV.canon, Bool.or_true, Bool.or_false, Bool.and_true, Bool.and_false, Bool.not_true, Bool.not_false, Option.some.injEq]), .inr (by first | exact tell_canon _ _ _ (.int .i64 (al * (1 + p + q - (1 + p) + 1))) 12 (by simp [AV.canon, canonL, canonL_N, canonL_E, canonL_encI, encI, encN, encE]) | rfl | simp [go_sem, tell_u, tell_bool, tell_int, tell_str, tell_nilp, tell_nilm, tell_nilI, tell_nilF, tell_agg, tell_tup, tell_ifc, tell_ds, tell_dp, tell_op, tell_os, tell_mp, idxOf_nil, idxOf_cons, tellS_nil, tellS_cons, tellO_cells, tellO_map, tellO_iter, tellO_dead, store_get0, store_getS, tell_canonL, tell_canon, canonL, AV.canon, Bool.or_true, Bool.or_false, Bool.and_true, Bool.and_false, Bool.not_true, Bool.not_false, Option.some.injEq, canonL_N, canonL_E, canonL_encI, encI, encN, encE]), .inr (by first | exact tell_canon _ _ _ (.int .i64 i) 12 (by simp [AV.canon, canonL, canonL_N, canonL_E, canonL_encI, encI, encN, encE]) | rfl | simp [go_sem, tell_u, tell_bool, tell_int, tell_str, tell_nilp, tell_nilm, tell_nilI, tell_nilF, tell_agg, tell_tup, tell_ifc, tell_ds, tell_dp, tell_op, tell_os, tell_mp, idxOf_nil, idxOf_cons, tellS_nil, tellS_cons, tellO_cells, tellO_map, tellO_iter, tellO_dead, store_get0, store_getS, tell_canonL, tell_canon, canonL, AV.canon, Bool.or_true, Bool.or_false, Bool.and_true, Bool.and_false, Bool.not_true, Bool.not_false, Option.some.injEq, canonL_N, canonL_E, canonL_encI, encI, encN, encE]), .inl rfl, .inr (by first | exact tell_canon _ _ _ (.int .i64 (1 + p + q)) 12 (by simp [AV.canon, canonL, canonL_N, canonL_E, canonL_encI, encI, encN, encE]) | rfl | simp [go_sem, tell_u, tell_bool, tell_int, tell_str, tell_nilp, tell_nilm, tell_nilI, tell_nilF, tell_agg, tell_tup, tell_ifc, tell_ds, tell_dp, tell_op, tell_os, tell_mp, idxOf_nil, idxOf_cons, tellS_nil, tellS_cons, tellO_cells, tellO_map, tellO_iter, tellO_dead, store_get0, store_getS, tell_canonL, tell_canon, canonL, AV.canon, Bool.or_true, Bool.or_false, Bool.and_true, Bool.and_false, Bool.not_true, Bool.not_false, Option.some.injEq, canonL_N, canonL_E, canonL_encI, encI, encN, encE]), .inr (by first | exact tell_canon _ _ _ (.int .i64 (1 + p + (j : Int))) 12 (by simp [AV.canon, canonL, canonL_N, canonL_E, canonL_encI, encI, encN, encE]) | rfl | simp [go_sem, tell_u, tell_bool, tell_int, tell_str, tell_nilp, tell_nilm, tell_nilI, tell_nilF, tell_agg, tell_tup, tell_ifc, tell_ds, tell_dp, tell_op, tell_os, tell_mp, idxOf_nil, idxOf_cons, tellS_nil, tellS_cons, tellO_cells, tellO_map, tellO_iter, tellO_dead, store_get0, store_getS, tell_canonL, tell_canon, canonL, AV.canon, Bool.or_true, Bool.or_false, Bool.and_true, Bool.and_false, Bool.not_true, Bool.not_false, Option.some.injEq, canonL_N, canonL_E, canonL_encI, encI, encN, encE]), trivial⟩
        rintro m L τ ⟨j, v2', w, rfl, rfl, rfl, hjq, hww⟩
        refine awp_seq_k fun Z4 hZ4 => ?_
        refine reg tok [true, true, true, false, false, false, false, true, true, true, true, false, true, true, false, false, false, false, false, false, false, false, false, false, false, false, false, false, false, false, false, false, false, false, false, false, false, false, false, false, false, false, false, false, false, false, false, false, false, false, false, false, false, false, false, false, false, false, false, false, false, false, true] fun K hK => ?_
        simp only [go_sem, Nat.reduceLT, Nat.reduceLeDiff, Nat.reduceEqDiff, Nat.reduceAdd, Nat.reduceMul, Nat.reduceSub, reduceIte, reduceCtorEq, encE]
        refine hK _ _ ?_
        clear hK K
        refine awp_if rfl (fun hcc12 => ?_) (fun hcc12 => ?_)
        · skip
          have hwj : IntKind.i64.wrap (1 + p + (j : Int) + 1) = 1 + p + ((j + 1 : Nat) : Int) := by rw [i64_in (by omega) (by omega)]; omega
          have hwl := wantF_len hW.near 0
          rw [← hwl0] at hwl
          have b1 : ((w.length + 1) * 8 ≤ 140737488355328) = True := eq_true (by rw [hww, List.length_append, List.length_replicate]; omega)
          have b2 : (w.flatMap encI).length = w.length * 1 := enc_length (enc := encI) (sz := 1) (fun _ => rfl) _
          refine awp_skip ?_
          refine hZ4 _ _ ?_
          refine awp_seq_k fun Z5 hZ5 => ?_
          refine awp_block ?_
          refine regEnd tok ?_
          simp only [go_sem, Nat.reduceLT, Nat.reduceLeDiff, Nat.reduceEqDiff, Nat.reduceAdd, Nat.reduceMul, Nat.reduceSub, reduceIte, reduceCtorEq, evBuildSlice, zeroRun, evAppendTo, lenOfAV, srcCells, encE, hwj, evAppend, b1, b2, List.range_succ, List.range_zero, true_and, Nat.reduceMod, encI_one]
          refine hZ5 _ _ ?_
          refine regEnd tok ?_
          simp only [go_sem, Nat.reduceLT, Nat.reduceLeDiff, Nat.reduceEqDiff, Nat.reduceAdd, Nat.reduceMul, Nat.reduceSub, reduceIte, reduceCtorEq, encE, hwj]
          refine ⟨_, _, _, ?_, ⟨j + 1, v2' + 1, w ++ [(i : Int)], rfl, rfl, rfl, ?_⟩, ?_⟩
          · omega
          · exact ⟨by omega, by rw [hww, List.append_assoc, List.replicate_succ']⟩
          · exact Tells.mk' [0, 1] false 12 (by decide) (by simp) (by first | rfl | simp) (by first | rfl | simp [tell_u, tell_bool, tell_int, tell_str, tell_nilp, tell_nilm, tell_nilI, tell_nilF, tell_agg, tell_tup, tell_ifc, tell_ds, tell_dp, tell_op, tell_os, tell_mp, idxOf_nil, idxOf_cons, tellS_nil, tellS_cons, tellO_cells, tellO_map, tellO_iter, tellO_dead, store_get0, store_getS, tell_canonL, tell_canon, canonL, AV.canon, Bool.or_true, Bool.or_false, Bool.and_true, Bool.and_false, Bool.not_true, Bool.not_false, Option.some.injEq, canonL_N, canonL_E, canonL_encI, encI, encN, encE]) ⟨.inr (by first | exact tell_canon _ _ _ (.ds true (vs.flatMap encI) vs.length false) 12 (by simp [AV.canon, canonL, canonL_N, canonL_E, canonL_encI, encI, encN, encE]) | rfl | simp [go_sem, tell_u, tell_bool, tell_int, tell_str, tell_nilp, tell_nilm, tell_nilI, tell_nilF, tell_agg, tell_tup, tell_ifc, tell_ds, tell_dp, tell_op, tell_os, tell_mp, idxOf_nil, idxOf_cons, tellS_nil, tellS_cons, tellO_cells, tellO_map, tellO_iter, tellO_dead, store_get0, store_getS, tell_canonL, tell_canon, canonL, AV.canon, Bool.or_true, Bool.or_false, Bool.and_true, Bool.and_false, Bool.not_true, Bool.not_false, Option.some.injEq, canonL_N, canonL_E, canonL_encI, encI, encN, encE]), .inr (by first | exact tell_canon _ _ _ (.ds true (ts.flatMap encI) ts.length false) 12 (by simp [AV.canon, canonL, canonL_N, canonL_E, canonL_encI, encI, encN, encE]) | rfl | simp [go_sem, tell_u, tell_bool, tell_int, tell_str, tell_nilp, tell_nilm, tell_nilI, tell_nilF, tell_agg, tell_tup, tell_ifc, tell_ds, tell_dp, tell_op, tell_os, tell_mp, idxOf_nil, idxOf_cons, tellS_nil, tellS_cons, tellO_cells, tellO_map, tellO_iter, tellO_dead, store_get0, store_getS, tell_canonL, tell_canon, canonL, AV.canon, Bool.or_true, Bool.or_false, Bool.and_true, Bool.and_false, Bool.not_true, Bool.not_false, Option.some.injEq, canonL_N, canonL_E, canonL_encI, encI, encN, encE]), .inr (by first | exact tell_canon _ _ _ (.ds true (es.flatMap encE) es.length false) 12 (by simp [AV.canon, canonL, canonL_N, canonL_E, canonL_encI, encI, encN, encE]) | rfl | simp [go_sem, tell_u, tell_bool, tell_int, tell_str, tell_nilp, tell_nilm, tell_nilI, tell_nilF, tell_agg, tell_tup, tell_ifc, tell_ds, tell_dp, tell_op, tell_os, tell_mp, idxOf_nil, idxOf_cons, tellS_nil, tellS_cons, tellO_cells, tellO_map, tellO_iter, tellO_dead, store_get0, store_getS, tell_canonL, tell_canon, canonL, AV.canon, Bool.or_true, Bool.or_false, Bool.and_true, Bool.and_false, Bool.not_true, Bool.not_false, Option.some.injEq, canonL_N, canonL_E, canonL_encI, encI, encN, encE]), .inl rfl, .inl rfl, .inl rfl, .inl rfl, .inr (by first | rfl | simp [go_sem, tell_u, tell_bool, tell_int, tell_str, tell_nilp, tell_nilm, tell_nilI, tell_nilF, tell_agg, tell_tup, tell_ifc, tell_ds, tell_dp, tell_op, tell_os, tell_mp, idxOf_nil, idxOf_cons, tellS_nil, tellS_cons, tellO_cells, tellO_map, tellO_iter, tellO_dead, store_get0, store_getS, tell_canonL, tell_canon, canonL, AV.canon, Bool.or_true, Bool.or_false, Bool.and_true, Bool.and_false, Bool.not_true, Bool.not_false, Option.some.injEq]), .inr (by first | rfl | simp [go_sem, tell_u, tell_bool, tell_int, tell_str, tell_nilp, tell_nilm, tell_nilI, tell_nilF, tell_agg, tell_tup, tell_ifc, tell_ds, tell_dp, tell_op, tell_os, tell_mp, idxOf_nil, idxOf_cons, tellS_nil, tellS_cons, tellO_cells, tellO_map, tellO_iter, tellO_dead, store_get0, store_getS, tell_canonL, tell_canon, canonL, AV.canon, Bool.or_true, Bool.or_false, Bool.and_true, Bool.and_false, Bool.not_true, Bool.not_false, Option.some.injEq]), .inr (by first | exact tell_canon _ _ _ (.int .i64 (al * (1 + p + q - (1 + p) + 1))) 12 (by simp [AV.canon, canonL, canonL_N, canonL_E, canonL_encI, encI, encN, encE]) | rfl | simp [go_sem, tell_u, tell_bool, tell_int, tell_str, tell_nilp, tell_nilm, tell_nilI, tell_nilF, tell_agg, tell_tup, tell_ifc, tell_ds, tell_dp, tell_op, tell_os, tell_mp, idxOf_nil, idxOf_cons, tellS_nil, tellS_cons, tellO_cells, tellO_map, tellO_iter, tellO_dead, store_get0, store_getS, tell_canonL, tell_canon, canonL, AV.canon, Bool.or_true, Bool.or_false, Bool.and_true, Bool.and_false, Bool.not_true, Bool.not_false, Option.some.injEq, canonL_N, canonL_E, canonL_encI, encI, encN, encE]), .inr (by first | exact tell_canon _ _ _ (.int .i64 i) 12 (by simp [AV.canon, canonL, canonL_N, canonL_E, canonL_encI, encI, encN, encE]) | rfl | simp [go_sem, tell_u, tell_bool, tell_int, tell_str, tell_nilp, tell_nilm, tell_nilI, tell_nilF, tell_agg, tell_tup, tell_ifc, tell_ds, tell_dp, tell_op, tell_os, tell_mp, idxOf_nil, idxOf_cons, tellS_nil, tellS_cons, tellO_cells, tellO_map, tellO_iter, tellO_dead, store_get0, store_getS, tell_canonL, tell_canon, canonL, AV.canon, Bool.or_true, Bool.or_false, Bool.and_true, Bool.and_false, Bool.not_true, Bool.not_false, Option.some.injEq, canonL_N, canonL_E, canonL_encI, encI, encN, encE]), .inl rfl, .inr (by first | exact tell_canon _ _ _ (.int .i64 (1 + p + q)) 12 (by simp [AV.canon, canonL, canonL_N, canonL_E, canonL_encI, encI, encN, encE]) | rfl | simp [go_sem, tell_u, tell_bool, tell_int, tell_str, tell_nilp, tell_nilm, tell_nilI, tell_nilF, tell_agg, tell_tup, tell_ifc, tell_ds, tell_dp, tell_op, tell_os, tell_mp, idxOf_nil, idxOf_cons, tellS_nil, tellS_cons, tellO_cells, tellO_map, tellO_iter, tellO_dead, store_get0, store_getS, tell_canonL, tell_canon, canonL, AV.canon, Bool.or_true, Bool.or_false, Bool.and_true, Bool.and_false, Bool.not_true, Bool.not_false, Option.some.injEq, canonL_N, canonL_E, canonL_encI, encI, encN, encE]), .inr (by first | exact tell_canon _ _ _ (.int .i64 (1 + p + (j : Int))) 12 (by simp [AV.canon, canonL, canonL_N, canonL_E, canonL_encI, encI, encN, encE]) | rfl | simp [go_sem, tell_u, tell_bool, tell_int, tell_str, tell_nilp, tell_nilm, tell_nilI, tell_nilF, tell_agg, tell_tup, tell_ifc, tell_ds, tell_dp, tell_op, tell_os, tell_mp, idxOf_nil, idxOf_cons, tellS_nil, tellS_cons, tellO_cells, tellO_map, tellO_iter, tellO_dead, store_get0, store_getS, tell_canonL, tell_canon, canonL, AV.canon, Bool.or_true, Bool.or_false, Bool.and_true, Bool.and_false, Bool.not_true, Bool.not_false, Option.some.injEq, canonL_N, canonL_E, canonL_encI, encI, encN, encE]), trivial⟩
        · skip
          refine awp_exit ?_
          refine hZ3 _ _ ?_
          have hjq : (j : Int) = q := by omega
          have hw' : w = wantF (n ++ [(⟨1 + p, 1 + p + q, 12⟩ : Nd)]) 0 := by
            rw [wantF_snoc, hww, hwl0]
            simp only [Nat.zero_add, hni]
            rw [show (1 + p + q - (1 + p)).toNat = j by omega]
          refine regEnd tok ?_
          simp only [go_sem, Nat.reduceLT, Nat.reduceLeDiff, Nat.reduceEqDiff, Nat.reduceAdd, Nat.reduceMul, Nat.reduceSub, reduceIte, reduceCtorEq, encE, hwi]
          refine ⟨_, _, _, ?_, ⟨i + 1, v1 + 1, v2', n ++ [⟨1 + p, 1 + p + q, 12⟩], w, al * (1 + p + q - (1 + p) + 1), rfl, rfl, rfl, ?_⟩, ?_⟩
          · omega
          · exact ⟨by simp [hni], hWn, hw', hps.symm⟩
          · exact Tells.mk' [0, 1] false 12 (by decide) (by simp) (by first | rfl | simp) (by first | rfl | simp [tell_u, tell_bool, tell_int, tell_str, tell_nilp, tell_nilm, tell_nilI, tell_nilF, tell_agg, tell_tup, tell_ifc, tell_ds, tell_dp, tell_op, tell_os, tell_mp, idxOf_nil, idxOf_cons, tellS_nil, tellS_cons, tellO_cells, tellO_map, tellO_iter, tellO_dead, store_get0, store_getS, tell_canonL, tell_canon, canonL, AV.canon, Bool.or_true, Bool.or_false, Bool.and_true, Bool.and_false, Bool.not_true, Bool.not_false, Option.some.injEq, canonL_N, canonL_E, canonL_encI, encI, encN, encE]) ⟨.inr (by first | exact tell_canon _ _ _ (.ds true (vs.flatMap encI) vs.length false) 12 (by simp [AV.canon, canonL, canonL_N, canonL_E, canonL_encI, encI, encN, encE]) | rfl | simp [go_sem, tell_u, tell_bool, tell_int, tell_str, tell_nilp, tell_nilm, tell_nilI, tell_nilF, tell_agg, tell_tup, tell_ifc, tell_ds, tell_dp, tell_op, tell_os, tell_mp, idxOf_nil, idxOf_cons, tellS_nil, tellS_cons, tellO_cells, tellO_map, tellO_iter, tellO_dead, store_get0, store_getS, tell_canonL, tell_canon, canonL, AV.canon, Bool.or_true, Bool.or_false, Bool.and_true, Bool.and_false, Bool.not_true, Bool.not_false, Option.some.injEq, canonL_N, canonL_E, canonL_encI, encI, encN, encE]), .inr (by first | exact tell_canon _ _ _ (.ds true (ts.flatMap encI) ts.length false) 12 (by simp [AV.canon, canonL, canonL_N, canonL_E, canonL_encI, encI, encN, encE]) | rfl | simp [go_sem, tell_u, tell_bool, tell_int, tell_str, tell_nilp, tell_nilm, tell_nilI, tell_nilF, tell_agg, tell_tup, tell_ifc, tell_ds, tell_dp, tell_op, tell_os, tell_mp, idxOf_nil, idxOf_cons, tellS_nil, tellS_cons, tellO_cells, tellO_map, tellO_iter, tellO_dead, store_get0, store_getS, tell_canonL, tell_canon, canonL, AV.canon, Bool.or_true, Bool.or_false, Bool.and_true, Bool.and_false, Bool.not_true, Bool.not_false, Option.some.injEq, canonL_N, canonL_E, canonL_encI, encI, encN, encE]), .inr (by first | exact tell_canon _ _ _ (.ds true (es.flatMap encE) es.length false) 12 (by simp [AV.canon, canonL, canonL_N, canonL_E, canonL_encI, encI, encN, encE]) | rfl | simp [go_sem, tell_u, tell_bool, tell_int, tell_str, tell_nilp, tell_nilm, tell_nilI, tell_nilF, tell_agg, tell_tup, tell_ifc, tell_ds, tell_dp, tell_op, tell_os, tell_mp, idxOf_nil, idxOf_cons, tellS_nil, tellS_cons, tellO_cells, tellO_map, tellO_iter, tellO_dead, store_get0, store_getS, tell_canonL, tell_canon, canonL, AV.canon, Bool.or_true, Bool.or_false, Bool.and_true, Bool.and_false, Bool.not_true, Bool.not_false, Option.some.injEq, canonL_N, canonL_E, canonL_encI, encI, encN, encE]), .inl rfl, .inl rfl, .inl rfl, .inl rfl, .inr (by first | rfl | simp [go_sem, tell_u, tell_bool, tell_int, tell_str, tell_nilp, tell_nilm, tell_nilI, tell_nilF, tell_agg, tell_tup, tell_ifc, tell_ds, tell_dp, tell_op, tell_os, tell_mp, idxOf_nil, idxOf_cons, tellS_nil, tellS_cons, tellO_cells, tellO_map, tellO_iter, tellO_dead, store_get0, store_getS, tell_canonL, tell_canon, canonL, AV.canon, Bool.or_true, Bool.or_false, Bool.and_true, Bool.and_false, Bool.not_true, Bool.not_false, Option.some.injEq]), .inr (by first | rfl | simp [go_sem, tell_u, tell_bool, tell_int, tell_str, tell_nilp, tell_nilm, tell_nilI, tell_nilF, tell_agg, tell_tup, tell_ifc, tell_ds, tell_dp, tell_op, tell_os, tell_mp, idxOf_nil, idxOf_cons, tellS_nil, tellS_cons, tellO_cells, tellO_map, tellO_iter, tellO_dead, store_get0, store_getS, tell_canonL, tell_canon, canonL, AV.canon, Bool.or_true, Bool.or_false, Bool.and_true, Bool.and_false, Bool.not_true, Bool.not_false, Option.some.injEq]), .inr (by first | exact tell_canon _ _ _ (.int .i64 al) 12 (by simp [AV.canon, canonL, canonL_N, canonL_E, canonL_encI, encI, encN, encE]) | rfl | simp [go_sem, tell_u, tell_bool, tell_int, tell_str, tell_nilp, tell_nilm, tell_nilI, tell_nilF, tell_agg, tell_tup, tell_ifc, tell_ds, tell_dp, tell_op, tell_os, tell_mp, idxOf_nil, idxOf_cons, tellS_nil, tellS_cons, tellO_cells, tellO_map, tellO_iter, tellO_dead, store_get0, store_getS, tell_canonL, tell_canon, canonL, AV.canon, Bool.or_true, Bool.or_false, Bool.and_true, Bool.and_false, Bool.not_true, Bool.not_false, Option.some.injEq, canonL_N, canonL_E, canonL_encI, encI, encN, encE]), .inr (by first | exact tell_canon _ _ _ (.int .i64 i) 12 (by simp [AV.canon, canonL, canonL_N, canonL_E, canonL_encI, encI, encN, encE]) | rfl | simp [go_sem, tell_u, tell_bool, tell_int, tell_str, tell_nilp, tell_nilm, tell_nilI, tell_nilF, tell_agg, tell_tup, tell_ifc, tell_ds, tell_dp, tell_op, tell_os, tell_mp, idxOf_nil, idxOf_cons, tellS_nil, tellS_cons, tellO_cells, tellO_map, tellO_iter, tellO_dead, store_get0, store_getS, tell_canonL, tell_canon, canonL, AV.canon, Bool.or_true, Bool.or_false, Bool.and_true, Bool.and_false, Bool.not_true, Bool.not_false, Option.some.injEq, canonL_N, canonL_E, canonL_encI, encI, encN, encE]), trivial⟩
      · skip
        refine awp_exit ?_
        refine hZ1 _ _ ?_
        refine reg tok [false, false, true, false, false, false, false, true, true, true, false, false, false, false, true] fun K hK => ?_
        simp only [go_sem, Nat.reduceLT, Nat.reduceLeDiff, Nat.reduceEqDiff, Nat.reduceAdd, Nat.reduceMul, Nat.reduceSub, reduceIte, reduceCtorEq, encE]
        refine hK _ _ ?_
        clear hK K
        refine awp_seq_k fun Z6 hZ6 => ?_
        refine reg tok [false, false, true, false, false, false, false, true, true, true, false, false, false, false, true, true] fun K hK => ?_
        simp only [go_sem, Nat.reduceLT, Nat.reduceLeDiff, Nat.reduceEqDiff, Nat.reduceAdd, Nat.reduceMul, Nat.reduceSub, reduceIte, reduceCtorEq, encE]
        refine hK _ _ ?_
        clear hK K
        refine awp_virt 14 2 rfl ?_
        simp only [go_sem]
        refine awp_block ?_
        refine awp_loopT (fun m L τ => ∃ (k v3 : Nat) (e : List Ed), m = 21 - k ∧ L = ([.u, .u, (.ds true (es.flatMap encE) es.length false), .u, .u, .u, .u, (.os true 3 0 v1 0 n.length false), (.os true 1 1 v2 0 wl.length false), (.int .i64 al), .u, .u, .u, .u, (.os true 2 2 v3 0 e.length false), (.int .i64 k)] : List AV) ∧ τ = ([.cells v1 (n.flatMap encN), .cells v2 (wl.flatMap encI), .cells v3 (e.flatMap encE)] : Store) ∧ e.length = k ∧ k ≤ 20 ∧ e.all (okE n) = true) _ ⟨0, 0, [], rfl, rfl, rfl, by exact ⟨rfl, by omega, rfl⟩⟩ ?_ ?_
        · exact Tells.mk' [0, 1, 2] false 12 (by decide) (by simp) (by first | rfl | simp) (by first | rfl | simp [tell_u, tell_bool, tell_int, tell_str, tell_nilp, tell_nilm, tell_nilI, tell_nilF, tell_agg, tell_tup, tell_ifc, tell_ds, tell_dp, tell_op, tell_os, tell_mp, idxOf_nil, idxOf_cons, tellS_nil, tellS_cons, tellO_cells, tellO_map, tellO_iter, tellO_dead, store_get0, store_getS, tell_canonL, tell_canon, canonL, AV.canon, Bool.or_true, Bool.or_false, Bool.and_true, Bool.and_false, Bool.not_true, Bool.not_false, Option.some.injEq, canonL_N, canonL_E, canonL_encI, encI, encN, encE]) ⟨.inl rfl, .inl rfl, .inr (by first | exact tell_canon _ _ _ (.ds true (es.flatMap encE) es.length false) 12 (by simp [AV.canon, canonL, canonL_N, canonL_E, canonL_encI, encI, encN, encE]) | rfl | simp [go_sem, tell_u, tell_bool, tell_int, tell_str, tell_nilp, tell_nilm, tell_nilI, tell_nilF, tell_agg, tell_tup, tell_ifc, tell_ds, tell_dp, tell_op, tell_os, tell_mp, idxOf_nil, idxOf_cons, tellS_nil, tellS_cons, tellO_cells, tellO_map, tellO_iter, tellO_dead, store_get0, store_getS, tell_canonL, tell_canon, canonL, AV.canon, Bool.or_true, Bool.or_false, Bool.and_true, Bool.and_false, Bool.not_true, Bool.not_false, Option.some.injEq, canonL_N, canonL_E, canonL_encI, encI, encN, encE]), .inl rfl, .inl rfl, .inl rfl, .inl rfl, .inr (by first | rfl | simp [go_sem, tell_u, tell_bool, tell_int, tell_str, tell_nilp, tell_nilm, tell_nilI, tell_nilF, tell_agg, tell_tup, tell_ifc, tell_ds, tell_dp, tell_op, tell_os, tell_mp, idxOf_nil, idxOf_cons, tellS_nil, tellS_cons, tellO_cells, tellO_map, tellO_iter, tellO_dead, store_get0, store_getS, tell_canonL, tell_canon, canonL, AV.canon, Bool.or_true, Bool.or_false, Bool.and_true, Bool.and_false, Bool.not_true, Bool.not_false, Option.some.injEq]), .inr (by first | rfl | simp [go_sem, tell_u, tell_bool, tell_int, tell_str, tell_nilp, tell_nilm, tell_nilI, tell_nilF, tell_agg, tell_tup, tell_ifc, tell_ds, tell_dp, tell_op, tell_os, tell_mp, idxOf_nil, idxOf_cons, tellS_nil, tellS_cons, tellO_cells, tellO_map, tellO_iter, tellO_dead, store_get0, store_getS, tell_canonL, tell_canon, canonL, AV.canon, Bool.or_true, Bool.or_false, Bool.and_true, Bool.and_false, Bool.not_true, Bool.not_false, Option.some.injEq]), .inr (by first | exact tell_canon _ _ _ (.int .i64 al) 12 (by simp [AV.canon, canonL, canonL_N, canonL_E, canonL_encI, encI, encN, encE]) | rfl | simp [go_sem, tell_u, tell_bool, tell_int, tell_str, tell_nilp, tell_nilm, tell_nilI, tell_nilF, tell_agg, tell_tup, tell_ifc, tell_ds, tell_dp, tell_op, tell_os, tell_mp, idxOf_nil, idxOf_cons, tellS_nil, tellS_cons, tellO_cells, tellO_map, tellO_iter, tellO_dead, store_get0, store_getS, tell_canonL, tell_canon, canonL, AV.canon, Bool.or_true, Bool.or_false, Bool.and_true, Bool.and_false, Bool.not_true, Bool.not_false, Option.some.injEq, canonL_N, canonL_E, canonL_encI, encI, encN, encE]), .inl rfl, .inl rfl, .inl rfl, .inl rfl, .inr (by first | rfl | simp [go_sem, tell_u, tell_bool, tell_int, tell_str, tell_nilp, tell_nilm, tell_nilI, tell_nilF, tell_agg, tell_tup, tell_ifc, tell_ds, tell_dp, tell_op, tell_os, tell_mp, idxOf_nil, idxOf_cons, tellS_nil, tellS_cons, tellO_cells, tellO_map, tellO_iter, tellO_dead, store_get0, store_getS, tell_canonL, tell_canon, canonL, AV.canon, Bool.or_true, Bool.or_false, Bool.and_true, Bool.and_false, Bool.not_true, Bool.not_false, Option.some.injEq]), .inr (by first | exact tell_canon _ _ _ (.int .i64 k) 12 (by simp [AV.canon, canonL, canonL_N, canonL_E, canonL_encI, encI, encN, encE]) | rfl | simp [go_sem, tell_u, tell_bool, tell_int, tell_str, tell_nilp, tell_nilm, tell_nilI, tell_nilF, tell_agg, tell_tup, tell_ifc, tell_ds, tell_dp, tell_op, tell_os, tell_mp, idxOf_nil, idxOf_cons, tellS_nil, tellS_cons, tellO_cells, tellO_map, tellO_iter, tellO_dead, store_get0, store_getS, tell_canonL, tell_canon, canonL, AV.canon, Bool.or_true, Bool.or_false, Bool.and_true, Bool.and_false, Bool.not_true, Bool.not_false, Option.some.injEq, canonL_N, canonL_E, canonL_encI, encI, encN, encE]), trivial⟩
        rintro m L τ ⟨k, v3, e, rfl, rfl, rfl, hek, hk2, heo⟩
        refine awp_seq_k fun Z7 hZ7 => ?_
        refine awp_seq_k fun K hK => ?_
        refine awp_region ?_
        refine opsRunN tok 5 ?_
        simp only [go_sem, Nat.reduceLT, Nat.reduceLeDiff, Nat.reduceEqDiff, Nat.reduceAdd, Nat.reduceMul, Nat.reduceSub, reduceIte, reduceCtorEq, encE]
        refine ops_if 73 rfl (fun hg73 => ?_) (fun hg73 => ?_)
        · skip
          refine opsRunN tok 4 ?_
          simp only [go_sem, Nat.reduceLT, Nat.reduceLeDiff, Nat.reduceEqDiff, Nat.reduceAdd, Nat.reduceMul, Nat.reduceSub, reduceIte, reduceCtorEq, encE]
          refine ops_if 77 rfl (fun hg77 => ?_) (fun hg77 => ?_)
          · skip
            refine opsRunN tok 4 ?_
            simp only [go_sem, Nat.reduceLT, Nat.reduceLeDiff, Nat.reduceEqDiff, Nat.reduceAdd, Nat.reduceMul, Nat.reduceSub, reduceIte, reduceCtorEq, encE]
            refine opsWp_nil ?_
            refine hK _ _ (awp_keepM [false, false, true, false, false, false, false, true, true, true, false, false, false, false, true, true, false, false, false, false, false, false, false, false, false, false, false, false, false, false, false, false, false, false, false, false, false, false, false, false, false, false, false, false, false, false, false, false, false, false, false, false, false, false, false, false, false, false, false, false, false, false, false, false, false, false, false, false, false, false, false, false, false, false, false, false, false, false, false, false, false, true] ?_)
            clear hK K
            try simp only [go_sem, Nat.reduceLT, Nat.reduceLeDiff, Nat.reduceEqDiff, Nat.reduceAdd, Nat.reduceMul, Nat.reduceSub, reduceIte, reduceCtorEq]
            refine awp_if rfl (fun hcc17 => ?_) (fun hcc17 => ?_)
            · skip
              refine awp_skip ?_
              refine hZ7 _ _ ?_
              refine awp_seq_k fun Z8 hZ8 => ?_
              refine awp_block ?_
              have hk20 : k < 20 := by omega
              have hke : k < es.length := by omega
              have hn0 : 0 < n.length := by omega
              have hn6 := hW.len
              have hwk : IntKind.i64.wrap ((k : Int) + 1) = ((k + 1 : Nat) : Int) := by rw [i64_in (by omega) (by omega)]; simp
              have jx := fun nl tt q => encE_E.idx (l := es) (k := (k : Int)) (by omega) (by omega) nl tt q
              have j0 := fun σ => encE_E.fld0 (f := 3) rfl rfl (l := es) (i := k) hke σ
              have j1 := fun σ => encE_E.fld (f := 3) rfl rfl (l := es) (i := k) hke (o := 1) (by decide) σ
              obtain ⟨x, hx, hx0, hx1⟩ := place_lt es[k].f n.length (by omega) (by omega)
              obtain ⟨y, hy, hy0, hy1⟩ := place_lt es[k].t n.length (by omega) (by omega)
              have cx := fun σ => place_pc_ev es[k].f n.length (by omega) σ
              have cy := fun σ => place_pc_ev es[k].t n.length (by omega) σ
              simp only [hx, hy] at cx cy
              have c1 : ((e.length + 1) * 16 ≤ 140737488355328) = True := eq_true (by omega)
              have c2 : (e.flatMap encE).length = e.length * 2 := enc_length (enc := encE) (sz := 2) (fun _ => rfl) _
              refine DW.start (T := tab) [.any, .any, .any, .any, .any, .at [], .any, .at [], .eff, .any, .any, .any, .any, .own, .any, .own, .eff, .any, .eff, .eff, .any] [2] ?_
              refine DW.runN tok 8 ?_
              simp only [go_sem, Nat.reduceLT, Nat.reduceLeDiff, Nat.reduceEqDiff, Nat.reduceAdd, Nat.reduceMul, Nat.reduceSub, reduceIte, reduceCtorEq, encE, jx, j0, j1, Int.toNat_natCast, evAppend, c1, c2, zeroRun, List.range_succ, List.range_zero, true_and, Nat.reduceMod, encE_one]
              refine DW.call rfl rfl rfl (cx _) ?_
              refine DW.runN tok 7 ?_
              simp only [go_sem, Nat.reduceLT, Nat.reduceLeDiff, Nat.reduceEqDiff, Nat.reduceAdd, Nat.reduceMul, Nat.reduceSub, reduceIte, reduceCtorEq, encE, jx, j0, j1, Int.toNat_natCast, evAppend, c1, c2, zeroRun, List.range_succ, List.range_zero, true_and, Nat.reduceMod, encE_one]
              refine DW.call rfl rfl rfl (cy _) ?_
              refine DW.runN tok 4 ?_
              simp only [go_sem, Nat.reduceLT, Nat.reduceLeDiff, Nat.reduceEqDiff, Nat.reduceAdd, Nat.reduceMul, Nat.reduceSub, reduceIte, reduceCtorEq, evBuildSlice, zeroRun, evAppendTo, lenOfAV, srcCells, encE, jx, j0, j1, Int.toNat_natCast, evAppend, c1, c2, List.range_succ, List.range_zero, true_and, Nat.reduceMod, encE_one]
              refine DW.fin tok (by decide +kernel) rfl ?_
              refine hZ8 _ _ ?_
              refine regEnd tok ?_
              simp only [go_sem, Nat.reduceLT, Nat.reduceLeDiff, Nat.reduceEqDiff, Nat.reduceAdd, Nat.reduceMul, Nat.reduceSub, reduceIte, reduceCtorEq, encE, hwk]
              refine ⟨_, _, _, ?_, ⟨k + 1, v3 + 1, e ++ [⟨x, y⟩], rfl, rfl, rfl, ?_⟩, ?_⟩
              · omega
              · exact ⟨by simp [hek], by omega, by rw [List.all_append, heo]; simp [okE]; omega⟩
              · exact Tells.mk' [0, 1, 2] false 12 (by decide) (by simp) (by first | rfl | simp) (by first | rfl | simp [tell_u, tell_bool, tell_int, tell_str, tell_nilp, tell_nilm, tell_nilI, tell_nilF, tell_agg, tell_tup, tell_ifc, tell_ds, tell_dp, tell_op, tell_os, tell_mp, idxOf_nil, idxOf_cons, tellS_nil, tellS_cons, tellO_cells, tellO_map, tellO_iter, tellO_dead, store_get0, store_getS, tell_canonL, tell_canon, canonL, AV.canon, Bool.or_true, Bool.or_false, Bool.and_true, Bool.and_false, Bool.not_true, Bool.not_false, Option.some.injEq, canonL_N, canonL_E, canonL_encI, encI, encN, encE]) ⟨.inl rfl, .inl rfl, .inr (by first | exact tell_canon _ _ _ (.ds true (es.flatMap encE) es.length false) 12 (by simp [AV.canon, canonL, canonL_N, canonL_E, canonL_encI, encI, encN, encE]) | rfl | simp [go_sem, tell_u, tell_bool, tell_int, tell_str, tell_nilp, tell_nilm, tell_nilI, tell_nilF, tell_agg, tell_tup, tell_ifc, tell_ds, tell_dp, tell_op, tell_os, tell_mp, idxOf_nil, idxOf_cons, tellS_nil, tellS_cons, tellO_cells, tellO_map, tellO_iter, tellO_dead, store_get0, store_getS, tell_canonL, tell_canon, canonL, AV.canon, Bool.or_true, Bool.or_false, Bool.and_true, Bool.and_false, Bool.not_true, Bool.not_false, Option.some.injEq, canonL_N, canonL_E, canonL_encI, encI, encN, encE]), .inl rfl, .inl rfl, .inl rfl, .inl rfl, .inr (by first | rfl | simp [go_sem, tell_u, tell_bool, tell_int, tell_str, tell_nilp, tell_nilm, tell_nilI, tell_nilF, tell_agg, tell_tup, tell_ifc, tell_ds, tell_dp, tell_op, tell_os, tell_mp, idxOf_nil, idxOf_cons, tellS_nil, tellS_cons, tellO_cells, tellO_map, tellO_iter, tellO_dead, store_get0, store_getS, tell_canonL, tell_canon, canonL, AV.canon, Bool.or_true, Bool.or_false, Bool.and_true, Bool.and_false, Bool.not_true, Bool.not_false, Option.some.injEq]), .inr (by first | rfl | simp [go_sem, tell_u, tell_bool, tell_int, tell_str, tell_nilp, tell_nilm, tell_nilI, tell_nilF, tell_agg, tell_tup, tell_ifc, tell_ds, tell_dp, tell_op, tell_os, tell_mp, idxOf_nil, idxOf_cons, tellS_nil, tellS_cons, tellO_cells, tellO_map, tellO_iter, tellO_dead, store_get0, store_getS, tell_canonL, tell_canon, canonL, AV.canon, Bool.or_true, Bool.or_false, Bool.and_true, Bool.and_false, Bool.not_true, Bool.not_false, Option.some.injEq]), .inr (by first | exact tell_canon _ _ _ (.int .i64 al) 12 (by simp [AV.canon, canonL, canonL_N, canonL_E, canonL_encI, encI, encN, encE]) | rfl | simp [go_sem, tell_u, tell_bool, tell_int, tell_str, tell_nilp, tell_nilm, tell_nilI, tell_nilF, tell_agg, tell_tup, tell_ifc, tell_ds, tell_dp, tell_op, tell_os, tell_mp, idxOf_nil, idxOf_cons, tellS_nil, tellS_cons, tellO_cells, tellO_map, tellO_iter, tellO_dead, store_get0, store_getS, tell_canonL, tell_canon, canonL, AV.canon, Bool.or_true, Bool.or_false, Bool.and_true, Bool.and_false, Bool.not_true, Bool.not_false, Option.some.injEq, canonL_N, canonL_E, canonL_encI, encI, encN, encE]), .inl rfl, .inl rfl, .inl rfl, .inl rfl, .inr (by first | rfl | simp [go_sem, tell_u, tell_bool, tell_int, tell_str, tell_nilp, tell_nilm, tell_nilI, tell_nilF, tell_agg, tell_tup, tell_ifc, tell_ds, tell_dp, tell_op, tell_os, tell_mp, idxOf_nil, idxOf_cons, tellS_nil, tellS_cons, tellO_cells, tellO_map, tellO_iter, tellO_dead, store_get0, store_getS, tell_canonL, tell_canon, canonL, AV.canon, Bool.or_true, Bool.or_false, Bool.and_true, Bool.and_false, Bool.not_true, Bool.not_false, Option.some.injEq]), .inr (by first | exact tell_canon _ _ _ (.int .i64 k) 12 (by simp [AV.canon, canonL, canonL_N, canonL_E, canonL_encI, encI, encN, encE]) | rfl | simp [go_sem, tell_u, tell_bool, tell_int, tell_str, tell_nilp, tell_nilm, tell_nilI, tell_nilF, tell_agg, tell_tup, tell_ifc, tell_ds, tell_dp, tell_op, tell_os, tell_mp, idxOf_nil, idxOf_cons, tellS_nil, tellS_cons, tellO_cells, tellO_map, tellO_iter, tellO_dead, store_get0, store_getS, tell_canonL, tell_canon, canonL, AV.canon, Bool.or_true, Bool.or_false, Bool.and_true, Bool.and_false, Bool.not_true, Bool.not_false, Option.some.injEq, canonL_N, canonL_E, canonL_encI, encI, encN, encE]), trivial⟩
            · skip
              refine awp_exit ?_
              refine hZ6 _ _ ?_
              have hpl := hW.plan heo (by omega)
              have hwl := wantF_len hW.near 0
              have hn6 := hW.len
              have hpr := hW.prod
              subst hwl0 hal
              refine awp_seq_k fun K hK => ?_
              refine awp_region ?_
              refine opsRunN tok 2 ?_
              simp only [go_sem, Nat.reduceLT, Nat.reduceLeDiff, Nat.reduceEqDiff, Nat.reduceAdd, Nat.reduceMul, Nat.reduceSub, reduceIte, reduceCtorEq, encE]
              refine opsWp_tells [.u, .u, .u, .u, .u, .u, .u, .u, (.ds true ((wantF n 0).flatMap encI) (wantF n 0).length false), (.int .i64 (prodS n)), .u, .u, .u, .u, .u, .u, .u, .u, .u, .u, .u, .u, .u, .u, .u, .u, .u, .u, .u, .u, .u, .u, .u, .u, .u, .u, .u, .u, .u, .u, .u, .u, .u, .u, .u, .u, .u, .u, .u, .u, .u, .u, .u, .u, .u, .u, .u, .u, .u, .u, .u, .u, .u, .u, .u, .u, .u, .u, .u, .u, .u, .u, .u, .u, .u, .u, .u, .u, .u, .u, .u, .u, .u, .u, .u, .u, .u, .u, .u, .u, .u, .u, .u, .u, .u, .u, .u, .u, .u, .u, .u, .u, .u, .u, .u, (.ds true (n.flatMap encN) n.length false), (.ds true (e.flatMap encE) e.length false)] [] (Tells.mk' [] true 12 (by decide) (by simp) (by first | rfl | simp) (by first | rfl | simp [tell_u, tell_bool, tell_int, tell_str, tell_nilp, tell_nilm, tell_nilI, tell_nilF, tell_agg, tell_tup, tell_ifc, tell_ds, tell_dp, tell_op, tell_os, tell_mp, idxOf_nil, idxOf_cons, tellS_nil, tellS_cons, tellO_cells, tellO_map, tellO_iter, tellO_dead, store_get0, store_getS, tell_canonL, tell_canon, canonL, AV.canon, Bool.or_true, Bool.or_false, Bool.and_true, Bool.and_false, Bool.not_true, Bool.not_false, Option.some.injEq, canonL_N, canonL_E, canonL_encI, encI, encN, encE]) ⟨.inl rfl, .inl rfl, .inl rfl, .inl rfl, .inl rfl, .inl rfl, .inl rfl, .inl rfl, .inr (by first | rfl | (first | exact tell_enc (enc := encN) (sz := 3) (l := n) (fun _ => rfl) rfl (Store.at_hd.trans (if_pos rfl)) rfl (canonL_N _ _) _ _ | exact tell_enc (enc := encE) (sz := 2) (l := e) (fun _ => rfl) rfl (Store.at_tl.trans (Store.at_tl.trans (Store.at_hd.trans (if_pos rfl)))) rfl (canonL_E _ _) _ _ | exact tell_enc (enc := encI) (sz := 1) (l := wantF n 0) (fun _ => rfl) rfl (Store.at_tl.trans (Store.at_hd.trans (if_pos rfl))) rfl (canonL_encI _ _) _ _) | (simp [go_sem, tell_u, tell_bool, tell_int, tell_str, tell_nilp, tell_nilm, tell_nilI, tell_nilF, tell_agg, tell_tup, tell_ifc, tell_ds, tell_dp, tell_op, tell_os, tell_mp, idxOf_nil, idxOf_cons, tellS_nil, tellS_cons, tellO_cells, tellO_map, tellO_iter, tellO_dead, store_get0, store_getS, tell_canonL, tell_canon, canonL, AV.canon, Bool.or_true, Bool.or_false, Bool.and_true, Bool.and_false, Bool.not_true, Bool.not_false, Option.some.injEq, canonL_N, canonL_E, canonL_encI, encI, encN, encE]; done) | (simp [go_sem, encN, encE, encI, tell_u, tell_bool, tell_int, tell_str, tell_nilp, tell_nilm, tell_nilI, tell_nilF, tell_agg, tell_tup, tell_ifc, tell_ds, tell_dp, tell_op, tell_os, tell_mp, idxOf_nil, idxOf_cons, tellS_nil, tellS_cons, tellO_cells, tellO_map, tellO_iter, tellO_dead, store_get0, store_getS, tell_canonL, tell_canon, canonL, AV.canon, Bool.or_true, Bool.or_false, Bool.and_true, Bool.and_false, Bool.not_true, Bool.not_false, Option.some.injEq, canonL_N, canonL_E, canonL_encI, encI, encN, encE]; done)), .inr (by first | rfl | (first | exact tell_enc (enc := encN) (sz := 3) (l := n) (fun _ => rfl) rfl (Store.at_hd.trans (if_pos rfl)) rfl (canonL_N _ _) _ _ | exact tell_enc (enc := encE) (sz := 2) (l := e) (fun _ => rfl) rfl (Store.at_tl.trans (Store.at_tl.trans (Store.at_hd.trans (if_pos rfl)))) rfl (canonL_E _ _) _ _ | exact tell_enc (enc := encI) (sz := 1) (l := wantF n 0) (fun _ => rfl) rfl (Store.at_tl.trans (Store.at_hd.trans (if_pos rfl))) rfl (canonL_encI _ _) _ _) | (simp [go_sem, tell_u, tell_bool, tell_int, tell_str, tell_nilp, tell_nilm, tell_nilI, tell_nilF, tell_agg, tell_tup, tell_ifc, tell_ds, tell_dp, tell_op, tell_os, tell_mp, idxOf_nil, idxOf_cons, tellS_nil, tellS_cons, tellO_cells, tellO_map, tellO_iter, tellO_dead, store_get0, store_getS, tell_canonL, tell_canon, canonL, AV.canon, Bool.or_true, Bool.or_false, Bool.and_true, Bool.and_false, Bool.not_true, Bool.not_false, Option.some.injEq, canonL_N, canonL_E, canonL_encI, encI, encN, encE]; done) | (simp [go_sem, encN, encE, encI, tell_u, tell_bool, tell_int, tell_str, tell_nilp, tell_nilm, tell_nilI, tell_nilF, tell_agg, tell_tup, tell_ifc, tell_ds, tell_dp, tell_op, tell_os, tell_mp, idxOf_nil, idxOf_cons, tellS_nil, tellS_cons, tellO_cells, tellO_map, tellO_iter, tellO_dead, store_get0, store_getS, tell_canonL, tell_canon, canonL, AV.canon, Bool.or_true, Bool.or_false, Bool.and_true, Bool.and_false, Bool.not_true, Bool.not_false, Option.some.injEq, canonL_N, canonL_E, canonL_encI, encI, encN, encE]; done)), .inl rfl, .inl rfl, .inl rfl, .inl rfl, .inl rfl, .inl rfl, .inl rfl, .inl rfl, .inl rfl, .inl rfl, .inl rfl, .inl rfl, .inl rfl, .inl rfl, .inl rfl, .inl rfl, .inl rfl, .inl rfl, .inl rfl, .inl rfl, .inl rfl, .inl rfl, .inl rfl, .inl rfl, .inl rfl, .inl rfl, .inl rfl, .inl rfl, .inl rfl, .inl rfl, .inl rfl, .inl rfl, .inl rfl, .inl rfl, .inl rfl, .inl rfl, .inl rfl, .inl rfl, .inl rfl, .inl rfl, .inl rfl, .inl rfl, .inl rfl, .inl rfl, .inl rfl, .inl rfl, .inl rfl, .inl rfl, .inl rfl, .inl rfl, .inl rfl, .inl rfl, .inl rfl, .inl rfl, .inl rfl, .inl rfl, .inl rfl, .inl rfl, .inl rfl, .inl rfl, .inl rfl, .inl rfl, .inl rfl, .inl rfl, .inl rfl, .inl rfl, .inl rfl, .inl rfl, .inl rfl, .inl rfl, .inl rfl, .inl rfl, .inl rfl, .inl rfl, .inl rfl, .inl rfl, .inl rfl, .inl rfl, .inl rfl, .inl rfl, .inl rfl, .inl rfl, .inl rfl, .inl rfl, .inl rfl, .inl rfl, .inl rfl, .inl rfl, .inl rfl, .inl rfl, .inl rfl, .inl rfl, .inl rfl, .inl rfl, .inl rfl, .inr (by first | rfl | (first | exact tell_enc (enc := encN) (sz := 3) (l := n) (fun _ => rfl) rfl (Store.at_hd.trans (if_pos rfl)) rfl (canonL_N _ _) _ _ | exact tell_enc (enc := encE) (sz := 2) (l := e) (fun _ => rfl) rfl (Store.at_tl.trans (Store.at_tl.trans (Store.at_hd.trans (if_pos rfl)))) rfl (canonL_E _ _) _ _ | exact tell_enc (enc := encI) (sz := 1) (l := wantF n 0) (fun _ => rfl) rfl (Store.at_tl.trans (Store.at_hd.trans (if_pos rfl))) rfl (canonL_encI _ _) _ _) | (simp [go_sem, tell_u, tell_bool, tell_int, tell_str, tell_nilp, tell_nilm, tell_nilI, tell_nilF, tell_agg, tell_tup, tell_ifc, tell_ds, tell_dp, tell_op, tell_os, tell_mp, idxOf_nil, idxOf_cons, tellS_nil, tellS_cons, tellO_cells, tellO_map, tellO_iter, tellO_dead, store_get0, store_getS, tell_canonL, tell_canon, canonL, AV.canon, Bool.or_true, Bool.or_false, Bool.and_true, Bool.and_false, Bool.not_true, Bool.not_false, Option.some.injEq, canonL_N, canonL_E, canonL_encI, encI, encN, encE]; done) | (simp [go_sem, encN, encE, encI, tell_u, tell_bool, tell_int, tell_str, tell_nilp, tell_nilm, tell_nilI, tell_nilF, tell_agg, tell_tup, tell_ifc, tell_ds, tell_dp, tell_op, tell_os, tell_mp, idxOf_nil, idxOf_cons, tellS_nil, tellS_cons, tellO_cells, tellO_map, tellO_iter, tellO_dead, store_get0, store_getS, tell_canonL, tell_canon, canonL, AV.canon, Bool.or_true, Bool.or_false, Bool.and_true, Bool.and_false, Bool.not_true, Bool.not_false, Option.some.injEq, canonL_N, canonL_E, canonL_encI, encI, encN, encE]; done)), .inr (by first | rfl | (first | exact tell_enc (enc := encN) (sz := 3) (l := n) (fun _ => rfl) rfl (Store.at_hd.trans (if_pos rfl)) rfl (canonL_N _ _) _ _ | exact tell_enc (enc := encE) (sz := 2) (l := e) (fun _ => rfl) rfl (Store.at_tl.trans (Store.at_tl.trans (Store.at_hd.trans (if_pos rfl)))) rfl (canonL_E _ _) _ _ | exact tell_enc (enc := encI) (sz := 1) (l := wantF n 0) (fun _ => rfl) rfl (Store.at_tl.trans (Store.at_hd.trans (if_pos rfl))) rfl (canonL_encI _ _) _ _) | (simp [go_sem, tell_u, tell_bool, tell_int, tell_str, tell_nilp, tell_nilm, tell_nilI, tell_nilF, tell_agg, tell_tup, tell_ifc, tell_ds, tell_dp, tell_op, tell_os, tell_mp, idxOf_nil, idxOf_cons, tellS_nil, tellS_cons, tellO_cells, tellO_map, tellO_iter, tellO_dead, store_get0, store_getS, tell_canonL, tell_canon, canonL, AV.canon, Bool.or_true, Bool.or_false, Bool.and_true, Bool.and_false, Bool.not_true, Bool.not_false, Option.some.injEq, canonL_N, canonL_E, canonL_encI, encI, encN, encE]; done) | (simp [go_sem, encN, encE, encI, tell_u, tell_bool, tell_int, tell_str, tell_nilp, tell_nilm, tell_nilI, tell_nilF, tell_agg, tell_tup, tell_ifc, tell_ds, tell_dp, tell_op, tell_os, tell_mp, idxOf_nil, idxOf_cons, tellS_nil, tellS_cons, tellO_cells, tellO_map, tellO_iter, tellO_dead, store_get0, store_getS, tell_canonL, tell_canon, canonL, AV.canon, Bool.or_true, Bool.or_false, Bool.and_true, Bool.and_false, Bool.not_true, Bool.not_false, Option.some.injEq, canonL_N, canonL_E, canonL_encI, encI, encN, encE]; done)), trivial⟩) ?_
              refine opsWp_callD rfl rfl rfl (plan_pc_ev n e (by omega) (by omega) _) ?_
              rw [hpl]; rintro _ _ ⟨rfl, rfl⟩
              refine opsRunN tok 5 ?_
              simp only [go_sem, Nat.reduceLT, Nat.reduceLeDiff, Nat.reduceEqDiff, Nat.reduceAdd, Nat.reduceMul, Nat.reduceSub, reduceIte, reduceCtorEq, encE]
              refine opsWp_nil ?_
              refine hK _ _ (awp_keepM [false, false, false, false, false, false, false, false, true, true, false, false, false, false, false, false, true, true] ?_)
              clear hK K
              try simp only [go_sem, Nat.reduceLT, Nat.reduceLeDiff, Nat.reduceEqDiff, Nat.reduceAdd, Nat.reduceMul, Nat.reduceSub, reduceIte, reduceCtorEq]
              refine awp_seq_k fun K hK => ?_
              refine awp_region ?_
              refine opsRunN tok 3 ?_
              simp only [go_sem, Nat.reduceLT, Nat.reduceLeDiff, Nat.reduceEqDiff, Nat.reduceAdd, Nat.reduceMul, Nat.reduceSub, reduceIte, reduceCtorEq, encE]
              refine ops_if 112 rfl (fun hg112 => ?_) (fun hg112 => ?_)
              · skip
                refine opsRunN tok 2 ?_
                simp only [go_sem, Nat.reduceLT, Nat.reduceLeDiff, Nat.reduceEqDiff, Nat.reduceAdd, Nat.reduceMul, Nat.reduceSub, reduceIte, reduceCtorEq, encE]
                refine opsWp_callD rfl rfl rfl (same_pc_ev (wantF n 0) (wantF n 0) (by omega) (by omega) _) ?_
                rintro _ _ ⟨rfl, rfl⟩
                refine opsRunN tok 2 ?_
                simp only [go_sem, Nat.reduceLT, Nat.reduceLeDiff, Nat.reduceEqDiff, Nat.reduceAdd, Nat.reduceMul, Nat.reduceSub, reduceIte, reduceCtorEq, encE]
                refine ops_if 117 rfl (fun hg117 => ?_) (fun hg117 => ?_)
                · skip
                  refine opsRunN tok 4 ?_
                  simp only [go_sem, Nat.reduceLT, Nat.reduceLeDiff, Nat.reduceEqDiff, Nat.reduceAdd, Nat.reduceMul, Nat.reduceSub, reduceIte, reduceCtorEq, encE]
                  refine ops_if 121 rfl (fun hg121 => ?_) (fun hg121 => ?_)
                  · skip
                    refine opsWp_callD rfl rfl rfl (awake_pc_ev _) ?_
                    rintro _ _ ⟨rfl, rfl⟩
                    refine opsRunN tok 2 ?_
                    simp only [go_sem, Nat.reduceLT, Nat.reduceLeDiff, Nat.reduceEqDiff, Nat.reduceAdd, Nat.reduceMul, Nat.reduceSub, reduceIte, reduceCtorEq, encE]
                    refine opsWp_nil ?_
                    refine hK _ _ (awp_keepM [false, false, false, false, false, false, true] ?_)
                    clear hK K
                    try simp only [go_sem, Nat.reduceLT, Nat.reduceLeDiff, Nat.reduceEqDiff, Nat.reduceAdd, Nat.reduceMul, Nat.reduceSub, reduceIte, reduceCtorEq]
                    refine awp_ret ?_
                    simp only [retQ, resAll, resOne, resAV, exists_eq_left', go_sem, Nat.reduceLT, Nat.reduceLeDiff, Nat.reduceEqDiff, Nat.reduceAdd, Nat.reduceMul, Nat.reduceSub, reduceIte, reduceCtorEq, encE]
                    first | rfl | (exfalso; simp_all; done) | (exfalso; omega)
                  · skip
                    refine opsRunN tok 3 ?_
                    simp only [go_sem, Nat.reduceLT, Nat.reduceLeDiff, Nat.reduceEqDiff, Nat.reduceAdd, Nat.reduceMul, Nat.reduceSub, reduceIte, reduceCtorEq, encE]
                    refine opsWp_nil ?_
                    refine hK _ _ (awp_keepM [false, false, false, false, false, false, true] ?_)
                    clear hK K
                    try simp only [go_sem, Nat.reduceLT, Nat.reduceLeDiff, Nat.reduceEqDiff, Nat.reduceAdd, Nat.reduceMul, Nat.reduceSub, reduceIte, reduceCtorEq]
                    refine awp_ret ?_
                    simp only [retQ, resAll, resOne, resAV, exists_eq_left', go_sem, Nat.reduceLT, Nat.reduceLeDiff, Nat.reduceEqDiff, Nat.reduceAdd, Nat.reduceMul, Nat.reduceSub, reduceIte, reduceCtorEq, encE]
                    first | rfl | (exfalso; simp_all; done) | (exfalso; omega)
                · skip
                  refine opsRunN tok 7 ?_
                  simp only [go_sem, Nat.reduceLT, Nat.reduceLeDiff, Nat.reduceEqDiff, Nat.reduceAdd, Nat.reduceMul, Nat.reduceSub, reduceIte, reduceCtorEq, encE]
                  refine opsWp_nil ?_
                  refine hK _ _ (awp_keepM [false, false, false, false, false, false, true] ?_)
                  clear hK K
                  try simp only [go_sem, Nat.reduceLT, Nat.reduceLeDiff, Nat.reduceEqDiff, Nat.reduceAdd, Nat.reduceMul, Nat.reduceSub, reduceIte, reduceCtorEq]
                  refine awp_ret ?_
                  simp only [retQ, resAll, resOne, resAV, exists_eq_left', go_sem, Nat.reduceLT, Nat.reduceLeDiff, Nat.reduceEqDiff, Nat.reduceAdd, Nat.reduceMul, Nat.reduceSub, reduceIte, reduceCtorEq, encE]
                  first | rfl | (exfalso; simp_all; done) | (exfalso; omega)
              · skip
                refine opsRunN tok 8 ?_
                simp only [go_sem, Nat.reduceLT, Nat.reduceLeDiff, Nat.reduceEqDiff, Nat.reduceAdd, Nat.reduceMul, Nat.reduceSub, reduceIte, reduceCtorEq, encE]
                refine opsRunN tok 4 ?_
                simp only [go_sem, Nat.reduceLT, Nat.reduceLeDiff, Nat.reduceEqDiff, Nat.reduceAdd, Nat.reduceMul, Nat.reduceSub, reduceIte, reduceCtorEq, encE]
                refine opsWp_nil ?_
                refine hK _ _ (awp_keepM [false, false, false, false, false, false, true] ?_)
                clear hK K
                try simp only [go_sem, Nat.reduceLT, Nat.reduceLeDiff, Nat.reduceEqDiff, Nat.reduceAdd, Nat.reduceMul, Nat.reduceSub, reduceIte, reduceCtorEq]
                refine awp_ret ?_
                simp only [retQ, resAll, resOne, resAV, exists_eq_left', go_sem, Nat.reduceLT, Nat.reduceLeDiff, Nat.reduceEqDiff, Nat.reduceAdd, Nat.reduceMul, Nat.reduceSub, reduceIte, reduceCtorEq, encE]
                first | rfl | (exfalso; simp_all; done) | (exfalso; omega)
          · skip
            refine opsRunN tok 4 ?_
            simp only [go_sem, Nat.reduceLT, Nat.reduceLeDiff, Nat.reduceEqDiff, Nat.reduceAdd, Nat.reduceMul, Nat.reduceSub, reduceIte, reduceCtorEq, encE]
            refine opsWp_nil ?_
            refine hK _ _ (awp_keepM [false, false, true, false, false, false, false, true, true, true, false, false, false, false, true, true, false, false, false, false, false, false, false, false, false, false, false, false, false, false, false, false, false, false, false, false, false, false, false, false, false, false, false, false, false, false, false, false, false, false, false, false, false, false, false, false, false, false, false, false, false, false, false, false, false, false, false, false, false, false, false, false, false, false, false, false, false, false, false, false, false, true] ?_)
            clear hK K
            try simp only [go_sem, Nat.reduceLT, Nat.reduceLeDiff, Nat.reduceEqDiff, Nat.reduceAdd, Nat.reduceMul, Nat.reduceSub, reduceIte, reduceCtorEq]
            refine awp_cond_f rfl ?_
            refine awp_exit ?_
            refine hZ6 _ _ ?_
            have hpl := hW.plan heo (by omega)
            have hwl := wantF_len hW.near 0
            have hn6 := hW.len
            have hpr := hW.prod
            subst hwl0 hal
            refine awp_seq_k fun K hK => ?_
            refine awp_region ?_
            refine opsRunN tok 2 ?_
            simp only [go_sem, Nat.reduceLT, Nat.reduceLeDiff, Nat.reduceEqDiff, Nat.reduceAdd, Nat.reduceMul, Nat.reduceSub, reduceIte, reduceCtorEq, encE]
            refine opsWp_tells [.u, .u, .u, .u, .u, .u, .u, .u, (.ds true ((wantF n 0).flatMap encI) (wantF n 0).length false), (.int .i64 (prodS n)), .u, .u, .u, .u, .u, .u, .u, .u, .u, .u, .u, .u, .u, .u, .u, .u, .u, .u, .u, .u, .u, .u, .u, .u, .u, .u, .u, .u, .u, .u, .u, .u, .u, .u, .u, .u, .u, .u, .u, .u, .u, .u, .u, .u, .u, .u, .u, .u, .u, .u, .u, .u, .u, .u, .u, .u, .u, .u, .u, .u, .u, .u, .u, .u, .u, .u, .u, .u, .u, .u, .u, .u, .u, .u, .u, .u, .u, .u, .u, .u, .u, .u, .u, .u, .u, .u, .u, .u, .u, .u, .u, .u, .u, .u, .u, (.ds true (n.flatMap encN) n.length false), (.ds true (e.flatMap encE) e.length false)] [] (Tells.mk' [] true 12 (by decide) (by simp) (by first | rfl | simp) (by first | rfl | simp [tell_u, tell_bool, tell_int, tell_str, tell_nilp, tell_nilm, tell_nilI, tell_nilF, tell_agg, tell_tup, tell_ifc, tell_ds, tell_dp, tell_op, tell_os, tell_mp, idxOf_nil, idxOf_cons, tellS_nil, tellS_cons, tellO_cells, tellO_map, tellO_iter, tellO_dead, store_get0, store_getS, tell_canonL, tell_canon, canonL, AV.canon, Bool.or_true, Bool.or_false, Bool.and_true, Bool.and_false, Bool.not_true, Bool.not_false, Option.some.injEq, canonL_N, canonL_E, canonL_encI, encI, encN, encE]) ⟨.inl rfl, .inl rfl, .inl rfl, .inl rfl, .inl rfl, .inl rfl, .inl rfl, .inl rfl, .inr (by first | rfl | (first | exact tell_enc (enc := encN) (sz := 3) (l := n) (fun _ => rfl) rfl (Store.at_hd.trans (if_pos rfl)) rfl (canonL_N _ _) _ _ | exact tell_enc (enc := encE) (sz := 2) (l := e) (fun _ => rfl) rfl (Store.at_tl.trans (Store.at_tl.trans (Store.at_hd.trans (if_pos rfl)))) rfl (canonL_E _ _) _ _ | exact tell_enc (enc := encI) (sz := 1) (l := wantF n 0) (fun _ => rfl) rfl (Store.at_tl.trans (Store.at_hd.trans (if_pos rfl))) rfl (canonL_encI _ _) _ _) | (simp [go_sem, tell_u, tell_bool, tell_int, tell_str, tell_nilp, tell_nilm, tell_nilI, tell_nilF, tell_agg, tell_tup, tell_ifc, tell_ds, tell_dp, tell_op, tell_os, tell_mp, idxOf_nil, idxOf_cons, tellS_nil, tellS_cons, tellO_cells, tellO_map, tellO_iter, tellO_dead, store_get0, store_getS, tell_canonL, tell_canon, canonL, AV.canon, Bool.or_true, Bool.or_false, Bool.and_true, Bool.and_false, Bool.not_true, Bool.not_false, Option.some.injEq, canonL_N, canonL_E, canonL_encI, encI, encN, encE]; done) | (simp [go_sem, encN, encE, encI, tell_u, tell_bool, tell_int, tell_str, tell_nilp, tell_nilm, tell_nilI, tell_nilF, tell_agg, tell_tup, tell_ifc, tell_ds, tell_dp, tell_op, tell_os, tell_mp, idxOf_nil, idxOf_cons, tellS_nil, tellS_cons, tellO_cells, tellO_map, tellO_iter, tellO_dead, store_get0, store_getS, tell_canonL, tell_canon, canonL, AV.canon, Bool.or_true, Bool.or_false, Bool.and_true, Bool.and_false, Bool.not_true, Bool.not_false, Option.some.injEq, canonL_N, canonL_E, canonL_encI, encI, encN, encE]; done)), .inr (by first | rfl | (first | exact tell_enc (enc := encN) (sz := 3) (l := n) (fun _ => rfl) rfl (Store.at_hd.trans (if_pos rfl)) rfl (canonL_N _ _) _ _ | exact tell_enc (enc := encE) (sz := 2) (l := e) (fun _ => rfl) rfl (Store.at_tl.trans (Store.at_tl.trans (Store.at_hd.trans (if_pos rfl)))) rfl (canonL_E _ _) _ _ | exact tell_enc (enc := encI) (sz := 1) (l := wantF n 0) (fun _ => rfl) rfl (Store.at_tl.trans (Store.at_hd.trans (if_pos rfl))) rfl (canonL_encI _ _) _ _) | (simp [go_sem, tell_u, tell_bool, tell_int, tell_str, tell_nilp, tell_nilm, tell_nilI, tell_nilF, tell_agg, tell_tup, tell_ifc, tell_ds, tell_dp, tell_op, tell_os, tell_mp, idxOf_nil, idxOf_cons, tellS_nil, tellS_cons, tellO_cells, tellO_map, tellO_iter, tellO_dead, store_get0, store_getS, tell_canonL, tell_canon, canonL, AV.canon, Bool.or_true, Bool.or_false, Bool.and_true, Bool.and_false, Bool.not_true, Bool.not_false, Option.some.injEq, canonL_N, canonL_E, canonL_encI, encI, encN, encE]; done) | (simp [go_sem, encN, encE, encI, tell_u, tell_bool, tell_int, tell_str, tell_nilp, tell_nilm, tell_nilI, tell_nilF, tell_agg, tell_tup, tell_ifc, tell_ds, tell_dp, tell_op, tell_os, tell_mp, idxOf_nil, idxOf_cons, tellS_nil, tellS_cons, tellO_cells, tellO_map, tellO_iter, tellO_dead, store_get0, store_getS, tell_canonL, tell_canon, canonL, AV.canon, Bool.or_true, Bool.or_false, Bool.and_true, Bool.and_false, Bool.not_true, Bool.not_false, Option.some.injEq, canonL_N, canonL_E, canonL_encI, encI, encN, encE]; done)), .inl rfl, .inl rfl, .inl rfl, .inl rfl, .inl rfl, .inl rfl, .inl rfl, .inl rfl, .inl rfl, .inl rfl, .inl rfl, .inl rfl, .inl rfl, .inl rfl, .inl rfl, .inl rfl, .inl rfl, .inl rfl, .inl rfl, .inl rfl, .inl rfl, .inl rfl, .inl rfl, .inl rfl, .inl rfl, .inl rfl, .inl rfl, .inl rfl, .inl rfl, .inl rfl, .inl rfl, .inl rfl, .inl rfl, .inl rfl, .inl rfl, .inl rfl, .inl rfl, .inl rfl, .inl rfl, .inl rfl, .inl rfl, .inl rfl, .inl rfl, .inl rfl, .inl rfl, .inl rfl, .inl rfl, .inl rfl, .inl rfl, .inl rfl, .inl rfl, .inl rfl, .inl rfl, .inl rfl, .inl rfl, .inl rfl, .inl rfl, .inl rfl, .inl rfl, .inl rfl, .inl rfl, .inl rfl, .inl rfl, .inl rfl, .inl rfl, .inl rfl, .inl rfl, .inl rfl, .inl rfl, .inl rfl, .inl rfl, .inl rfl, .inl rfl, .inl rfl, .inl rfl, .inl rfl, .inl rfl, .inl rfl, .inl rfl, .inl rfl, .inl rfl, .inl rfl, .inl rfl, .inl rfl, .inl rfl, .inl rfl, .inl rfl, .inl rfl, .inl rfl, .inl rfl, .inl rfl, .inl rfl, .inl rfl, .inl rfl, .inl rfl, .inr (by first | rfl | (first | exact tell_enc (enc := encN) (sz := 3) (l := n) (fun _ => rfl) rfl (Store.at_hd.trans (if_pos rfl)) rfl (canonL_N _ _) _ _ | exact tell_enc (enc := encE) (sz := 2) (l := e) (fun _ => rfl) rfl (Store.at_tl.trans (Store.at_tl.trans (Store.at_hd.trans (if_pos rfl)))) rfl (canonL_E _ _) _ _ | exact tell_enc (enc := encI) (sz := 1) (l := wantF n 0) (fun _ => rfl) rfl (Store.at_tl.trans (Store.at_hd.trans (if_pos rfl))) rfl (canonL_encI _ _) _ _) | (simp [go_sem, tell_u, tell_bool, tell_int, tell_str, tell_nilp, tell_nilm, tell_nilI, tell_nilF, tell_agg, tell_tup, tell_ifc, tell_ds, tell_dp, tell_op, tell_os, tell_mp, idxOf_nil, idxOf_cons, tellS_nil, tellS_cons, tellO_cells, tellO_map, tellO_iter, tellO_dead, store_get0, store_getS, tell_canonL, tell_canon, canonL, AV.canon, Bool.or_true, Bool.or_false, Bool.and_true, Bool.and_false, Bool.not_true, Bool.not_false, Option.some.injEq, canonL_N, canonL_E, canonL_encI, encI, encN, encE]; done) | (simp [go_sem, encN, encE, encI, tell_u, tell_bool, tell_int, tell_str, tell_nilp, tell_nilm, tell_nilI, tell_nilF, tell_agg, tell_tup, tell_ifc, tell_ds, tell_dp, tell_op, tell_os, tell_mp, idxOf_nil, idxOf_cons, tellS_nil, tellS_cons, tellO_cells, tellO_map, tellO_iter, tellO_dead, store_get0, store_getS, tell_canonL, tell_canon, canonL, AV.canon, Bool.or_true, Bool.or_false, Bool.and_true, Bool.and_false, Bool.not_true, Bool.not_false, Option.some.injEq, canonL_N, canonL_E, canonL_encI, encI, encN, encE]; done)), .inr (by first | rfl | (first | exact tell_enc (enc := encN) (sz := 3) (l := n) (fun _ => rfl) rfl (Store.at_hd.trans (if_pos rfl)) rfl (canonL_N _ _) _ _ | exact tell_enc (enc := encE) (sz := 2) (l := e) (fun _ => rfl) rfl (Store.at_tl.trans (Store.at_tl.trans (Store.at_hd.trans (if_pos rfl)))) rfl (canonL_E _ _) _ _ | exact tell_enc (enc := encI) (sz := 1) (l := wantF n 0) (fun _ => rfl) rfl (Store.at_tl.trans (Store.at_hd.trans (if_pos rfl))) rfl (canonL_encI _ _) _ _) | (simp [go_sem, tell_u, tell_bool, tell_int, tell_str, tell_nilp, tell_nilm, tell_nilI, tell_nilF, tell_agg, tell_tup, tell_ifc, tell_ds, tell_dp, tell_op, tell_os, tell_mp, idxOf_nil, idxOf_cons, tellS_nil, tellS_cons, tellO_cells, tellO_map, tellO_iter, tellO_dead, store_get0, store_getS, tell_canonL, tell_canon, canonL, AV.canon, Bool.or_true, Bool.or_false, Bool.and_true, Bool.and_false, Bool.not_true, Bool.not_false, Option.some.injEq, canonL_N, canonL_E, canonL_encI, encI, encN, encE]; done) | (simp [go_sem, encN, encE, encI, tell_u, tell_bool, tell_int, tell_str, tell_nilp, tell_nilm, tell_nilI, tell_nilF, tell_agg, tell_tup, tell_ifc, tell_ds, tell_dp, tell_op, tell_os, tell_mp, idxOf_nil, idxOf_cons, tellS_nil, tellS_cons, tellO_cells, tellO_map, tellO_iter, tellO_dead, store_get0, store_getS, tell_canonL, tell_canon, canonL, AV.canon, Bool.or_true, Bool.or_false, Bool.and_true, Bool.and_false, Bool.not_true, Bool.not_false, Option.some.injEq, canonL_N, canonL_E, canonL_encI, encI, encN, encE]; done)), trivial⟩) ?_
            refine opsWp_callD rfl rfl rfl (plan_pc_ev n e (by omega) (by omega) _) ?_
            rw [hpl]; rintro _ _ ⟨rfl, rfl⟩
            refine opsRunN tok 5 ?_
            simp only [go_sem, Nat.reduceLT, Nat.reduceLeDiff, Nat.reduceEqDiff, Nat.reduceAdd, Nat.reduceMul, Nat.reduceSub, reduceIte, reduceCtorEq, encE]
            refine opsWp_nil ?_
            refine hK _ _ (awp_keepM [false, false, false, false, false, false, false, false, true, true, false, false, false, false, false, false, true, true] ?_)
            clear hK K
            try simp only [go_sem, Nat.reduceLT, Nat.reduceLeDiff, Nat.reduceEqDiff, Nat.reduceAdd, Nat.reduceMul, Nat.reduceSub, reduceIte, reduceCtorEq]
            refine awp_seq_k fun K hK => ?_
            refine awp_region ?_
            refine opsRunN tok 3 ?_
            simp only [go_sem, Nat.reduceLT, Nat.reduceLeDiff, Nat.reduceEqDiff, Nat.reduceAdd, Nat.reduceMul, Nat.reduceSub, reduceIte, reduceCtorEq, encE]
            refine ops_if 112 rfl (fun hg112 => ?_) (fun hg112 => ?_)
            · skip
              refine opsRunN tok 2 ?_
              simp only [go_sem, Nat.reduceLT, Nat.reduceLeDiff, Nat.reduceEqDiff, Nat.reduceAdd, Nat.reduceMul, Nat.reduceSub, reduceIte, reduceCtorEq, encE]
              refine opsWp_callD rfl rfl rfl (same_pc_ev (wantF n 0) (wantF n 0) (by omega) (by omega) _) ?_
              rintro _ _ ⟨rfl, rfl⟩
              refine opsRunN tok 2 ?_
              simp only [go_sem, Nat.reduceLT, Nat.reduceLeDiff, Nat.reduceEqDiff, Nat.reduceAdd, Nat.reduceMul, Nat.reduceSub, reduceIte, reduceCtorEq, encE]
              refine ops_if 117 rfl (fun hg117 => ?_) (fun hg117 => ?_)
              · skip
                refine opsRunN tok 4 ?_
                simp only [go_sem, Nat.reduceLT, Nat.reduceLeDiff, Nat.reduceEqDiff, Nat.reduceAdd, Nat.reduceMul, Nat.reduceSub, reduceIte, reduceCtorEq, encE]
                refine ops_if 121 rfl (fun hg121 => ?_) (fun hg121 => ?_)
                · skip
                  refine opsWp_callD rfl rfl rfl (awake_pc_ev _) ?_
                  rintro _ _ ⟨rfl, rfl⟩
                  refine opsRunN tok 2 ?_
                  simp only [go_sem, Nat.reduceLT, Nat.reduceLeDiff, Nat.reduceEqDiff, Nat.reduceAdd, Nat.reduceMul, Nat.reduceSub, reduceIte, reduceCtorEq, encE]
                  refine opsWp_nil ?_
                  refine hK _ _ (awp_keepM [false, false, false, false, false, false, true] ?_)
                  clear hK K
                  try simp only [go_sem, Nat.reduceLT, Nat.reduceLeDiff, Nat.reduceEqDiff, Nat.reduceAdd, Nat.reduceMul, Nat.reduceSub, reduceIte, reduceCtorEq]
                  refine awp_ret ?_
                  simp only [retQ, resAll, resOne, resAV, exists_eq_left', go_sem, Nat.reduceLT, Nat.reduceLeDiff, Nat.reduceEqDiff, Nat.reduceAdd, Nat.reduceMul, Nat.reduceSub, reduceIte, reduceCtorEq, encE]
                  first | rfl | (exfalso; simp_all; done) | (exfalso; omega)
                · skip
                  refine opsRunN tok 3 ?_
                  simp only [go_sem, Nat.reduceLT, Nat.reduceLeDiff, Nat.reduceEqDiff, Nat.reduceAdd, Nat.reduceMul, Nat.reduceSub, reduceIte, reduceCtorEq, encE]
                  refine opsWp_nil ?_
                  refine hK _ _ (awp_keepM [false, false, false, false, false, false, true] ?_)
                  clear hK K
                  try simp only [go_sem, Nat.reduceLT, Nat.reduceLeDiff, Nat.reduceEqDiff, Nat.reduceAdd, Nat.reduceMul, Nat.reduceSub, reduceIte, reduceCtorEq]
                  refine awp_ret ?_
                  simp only [retQ, resAll, resOne, resAV, exists_eq_left', go_sem, Nat.reduceLT, Nat.reduceLeDiff, Nat.reduceEqDiff, Nat.reduceAdd, Nat.reduceMul, Nat.reduceSub, reduceIte, reduceCtorEq, encE]
                  first | rfl | (exfalso; simp_all; done) | (exfalso; omega)
              · skip
                refine opsRunN tok 7 ?_
                simp only [go_sem, Nat.reduceLT, Nat.reduceLeDiff, Nat.reduceEqDiff, Nat.reduceAdd, Nat.reduceMul, Nat.reduceSub, reduceIte, reduceCtorEq, encE]
                refine opsWp_nil ?_
                refine hK _ _ (awp_keepM [false, false, false, false, false, false, true] ?_)
                clear hK K
                try simp only [go_sem, Nat.reduceLT, Nat.reduceLeDiff, Nat.reduceEqDiff, Nat.reduceAdd, Nat.reduceMul, Nat.reduceSub, reduceIte, reduceCtorEq]
                refine awp_ret ?_
                simp only [retQ, resAll, resOne, resAV, exists_eq_left', go_sem, Nat.reduceLT, Nat.reduceLeDiff, Nat.reduceEqDiff, Nat.reduceAdd, Nat.reduceMul, Nat.reduceSub, reduceIte, reduceCtorEq, encE]
                first | rfl | (exfalso; simp_all; done) | (exfalso; omega)
            · skip
              refine opsRunN tok 8 ?_
              simp only [go_sem, Nat.reduceLT, Nat.reduceLeDiff, Nat.reduceEqDiff, Nat.reduceAdd, Nat.reduceMul, Nat.reduceSub, reduceIte, reduceCtorEq, encE]
              refine opsRunN tok 4 ?_
              simp only [go_sem, Nat.reduceLT, Nat.reduceLeDiff, Nat.reduceEqDiff, Nat.reduceAdd, Nat.reduceMul, Nat.reduceSub, reduceIte, reduceCtorEq, encE]
              refine opsWp_nil ?_
              refine hK _ _ (awp_keepM [false, false, false, false, false, false, true] ?_)
              clear hK K
              try simp only [go_sem, Nat.reduceLT, Nat.reduceLeDiff, Nat.reduceEqDiff, Nat.reduceAdd, Nat.reduceMul, Nat.reduceSub, reduceIte, reduceCtorEq]
              refine awp_ret ?_
              simp only [retQ, resAll, resOne, resAV, exists_eq_left', go_sem, Nat.reduceLT, Nat.reduceLeDiff, Nat.reduceEqDiff, Nat.reduceAdd, Nat.reduceMul, Nat.reduceSub, reduceIte, reduceCtorEq, encE]
              first | rfl | (exfalso; simp_all; done) | (exfalso; omega)
        · skip
          refine opsRunN tok 8 ?_
          simp only [go_sem, Nat.reduceLT, Nat.reduceLeDiff, Nat.reduceEqDiff, Nat.reduceAdd, Nat.reduceMul, Nat.reduceSub, reduceIte, reduceCtorEq, encE]
          refine opsWp_nil ?_
          refine hK _ _ (awp_keepM [false, false, true, false, false, false, false, true, true, true, false, false, false, false, true, true, false, false, false, false, false, false, false, false, false, false, false, false, false, false, false, false, false, false, false, false, false, false, false, false, false, false, false, false, false, false, false, false, false, false, false, false, false, false, false, false, false, false, false, false, false, false, false, false, false, false, false, false, false, false, false, false, false, false, false, false, false, false, false, false, false, true] ?_)
          clear hK K
          try simp only [go_sem, Nat.reduceLT, Nat.reduceLeDiff, Nat.reduceEqDiff, Nat.reduceAdd, Nat.reduceMul, Nat.reduceSub, reduceIte, reduceCtorEq]
          refine awp_cond_f rfl ?_
          refine awp_exit ?_
          refine hZ6 _ _ ?_
          have hpl := hW.plan heo (by omega)
          have hwl := wantF_len hW.near 0
          have hn6 := hW.len
          have hpr := hW.prod
          subst hwl0 hal
          refine awp_seq_k fun K hK => ?_
          refine awp_region ?_
          refine opsRunN tok 2 ?_
          simp only [go_sem, Nat.reduceLT, Nat.reduceLeDiff, Nat.reduceEqDiff, Nat.reduceAdd, Nat.reduceMul, Nat.reduceSub, reduceIte, reduceCtorEq, encE]
          refine opsWp_tells [.u, .u, .u, .u, .u, .u, .u, .u, (.ds true ((wantF n 0).flatMap encI) (wantF n 0).length false), (.int .i64 (prodS n)), .u, .u, .u, .u, .u, .u, .u, .u, .u, .u, .u, .u, .u, .u, .u, .u, .u, .u, .u, .u, .u, .u, .u, .u, .u, .u, .u, .u, .u, .u, .u, .u, .u, .u, .u, .u, .u, .u, .u, .u, .u, .u, .u, .u, .u, .u, .u, .u, .u, .u, .u, .u, .u, .u, .u, .u, .u, .u, .u, .u, .u, .u, .u, .u, .u, .u, .u, .u, .u, .u, .u, .u, .u, .u, .u, .u, .u, .u, .u, .u, .u, .u, .u, .u, .u, .u, .u, .u, .u, .u, .u, .u, .u, .u, .u, (.ds true (n.flatMap encN) n.length false), (.ds true (e.flatMap encE) e.length false)] [] (Tells.mk' [] true 12 (by decide) (by simp) (by first | rfl | simp) (by first | rfl | simp [tell_u, tell_bool, tell_int, tell_str, tell_nilp, tell_nilm, tell_nilI, tell_nilF, tell_agg, tell_tup, tell_ifc, tell_ds, tell_dp, tell_op, tell_os, tell_mp, idxOf_nil, idxOf_cons, tellS_nil, tellS_cons, tellO_cells, tellO_map, tellO_iter, tellO_dead, store_get0, store_getS, tell_canonL, tell_canon, canonL, AV.canon, Bool.or_true, Bool.or_false, Bool.and_true, Bool.and_false, Bool.not_true, Bool.not_false, Option.some.injEq, canonL_N, canonL_E, canonL_encI, encI, encN, encE]) ⟨.inl rfl, .inl rfl, .inl rfl, .inl rfl, .inl rfl, .inl rfl, .inl rfl, .inl rfl, .inr (by first | rfl | (first | exact tell_enc (enc := encN) (sz := 3) (l := n) (fun _ => rfl) rfl (Store.at_hd.trans (if_pos rfl)) rfl (canonL_N _ _) _ _ | exact tell_enc (enc := encE) (sz := 2) (l := e) (fun _ => rfl) rfl (Store.at_tl.trans (Store.at_tl.trans (Store.at_hd.trans (if_pos rfl)))) rfl (canonL_E _ _) _ _ | exact tell_enc (enc := encI) (sz := 1) (l := wantF n 0) (fun _ => rfl) rfl (Store.at_tl.trans (Store.at_hd.trans (if_pos rfl))) rfl (canonL_encI _ _) _ _) | (simp [go_sem, tell_u, tell_bool, tell_int, tell_str, tell_nilp, tell_nilm, tell_nilI, tell_nilF, tell_agg, tell_tup, tell_ifc, tell_ds, tell_dp, tell_op, tell_os, tell_mp, idxOf_nil, idxOf_cons, tellS_nil, tellS_cons, tellO_cells, tellO_map, tellO_iter, tellO_dead, store_get0, store_getS, tell_canonL, tell_canon, canonL, AV.canon, Bool.or_true, Bool.or_false, Bool.and_true, Bool.and_false, Bool.not_true, Bool.not_false, Option.some.injEq, canonL_N, canonL_E, canonL_encI, encI, encN, encE]; done) | (simp [go_sem, encN, encE, encI, tell_u, tell_bool, tell_int, tell_str, tell_nilp, tell_nilm, tell_nilI, tell_nilF, tell_agg, tell_tup, tell_ifc, tell_ds, tell_dp, tell_op, tell_os, tell_mp, idxOf_nil, idxOf_cons, tellS_nil, tellS_cons, tellO_cells, tellO_map, tellO_iter, tellO_dead, store_get0, store_getS, tell_canonL, tell_canon, canonL, AV.canon, Bool.or_true, Bool.or_false, Bool.and_true, Bool.and_false, Bool.not_true, Bool.not_false, Option.some.injEq, canonL_N, canonL_E, canonL_encI, encI, encN, encE]; done)), .inr (by first | rfl | (first | exact tell_enc (enc := encN) (sz := 3) (l := n) (fun _ => rfl) rfl (Store.at_hd.trans (if_pos rfl)) rfl (canonL_N _ _) _ _ | exact tell_enc (enc := encE) (sz := 2) (l := e) (fun _ => rfl) rfl (Store.at_tl.trans (Store.at_tl.trans (Store.at_hd.trans (if_pos rfl)))) rfl (canonL_E _ _) _ _ | exact tell_enc (enc := encI) (sz := 1) (l := wantF n 0) (fun _ => rfl) rfl (Store.at_tl.trans (Store.at_hd.trans (if_pos rfl))) rfl (canonL_encI _ _) _ _) | (simp [go_sem, tell_u, tell_bool, tell_int, tell_str, tell_nilp, tell_nilm, tell_nilI, tell_nilF, tell_agg, tell_tup, tell_ifc, tell_ds, tell_dp, tell_op, tell_os, tell_mp, idxOf_nil, idxOf_cons, tellS_nil, tellS_cons, tellO_cells, tellO_map, tellO_iter, tellO_dead, store_get0, store_getS, tell_canonL, tell_canon, canonL, AV.canon, Bool.or_true, Bool.or_false, Bool.and_true, Bool.and_false, Bool.not_true, Bool.not_false, Option.some.injEq, canonL_N, canonL_E, canonL_encI, encI, encN, encE]; done) | (simp [go_sem, encN, encE, encI, tell_u, tell_bool, tell_int, tell_str, tell_nilp, tell_nilm, tell_nilI, tell_nilF, tell_agg, tell_tup, tell_ifc, tell_ds, tell_dp, tell_op, tell_os, tell_mp, idxOf_nil, idxOf_cons, tellS_nil, tellS_cons, tellO_cells, tellO_map, tellO_iter, tellO_dead, store_get0, store_getS, tell_canonL, tell_canon, canonL, AV.canon, Bool.or_true, Bool.or_false, Bool.and_true, Bool.and_false, Bool.not_true, Bool.not_false, Option.some.injEq, canonL_N, canonL_E, canonL_encI, encI, encN, encE]; done)), .inl rfl, .inl rfl, .inl rfl, .inl rfl, .inl rfl, .inl rfl, .inl rfl, .inl rfl, .inl rfl, .inl rfl, .inl rfl, .inl rfl, .inl rfl, .inl rfl, .inl rfl, .inl rfl, .inl rfl, .inl rfl, .inl rfl, .inl rfl, .inl rfl, .inl rfl, .inl rfl, .inl rfl, .inl rfl, .inl rfl, .inl rfl, .inl rfl, .inl rfl, .inl rfl, .inl rfl, .inl rfl, .inl rfl, .inl rfl, .inl rfl, .inl rfl, .inl rfl, .inl rfl, .inl rfl, .inl rfl, .inl rfl, .inl rfl, .inl rfl, .inl rfl, .inl rfl, .inl rfl, .inl rfl, .inl rfl, .inl rfl, .inl rfl, .inl rfl, .inl rfl, .inl rfl, .inl rfl, .inl rfl, .inl rfl, .inl rfl, .inl rfl, .inl rfl, .inl rfl, .inl rfl, .inl rfl, .inl rfl, .inl rfl, .inl rfl, .inl rfl, .inl rfl, .inl rfl, .inl rfl, .inl rfl, .inl rfl, .inl rfl, .inl rfl, .inl rfl, .inl rfl, .inl rfl, .inl rfl, .inl rfl, .inl rfl, .inl rfl, .inl rfl, .inl rfl, .inl rfl, .inl rfl, .inl rfl, .inl rfl, .inl rfl, .inl rfl, .inl rfl, .inl rfl, .inl rfl, .inl rfl, .inl rfl, .inl rfl, .inl rfl, .inr (by first | rfl | (first | exact tell_enc (enc := encN) (sz := 3) (l := n) (fun _ => rfl) rfl (Store.at_hd.trans (if_pos rfl)) rfl (canonL_N _ _) _ _ | exact tell_enc (enc := encE) (sz := 2) (l := e) (fun _ => rfl) rfl (Store.at_tl.trans (Store.at_tl.trans (Store.at_hd.trans (if_pos rfl)))) rfl (canonL_E _ _) _ _ | exact tell_enc (enc := encI) (sz := 1) (l := wantF n 0) (fun _ => rfl) rfl (Store.at_tl.trans (Store.at_hd.trans (if_pos rfl))) rfl (canonL_encI _ _) _ _) | (simp [go_sem, tell_u, tell_bool, tell_int, tell_str, tell_nilp, tell_nilm, tell_nilI, tell_nilF, tell_agg, tell_tup, tell_ifc, tell_ds, tell_dp, tell_op, tell_os, tell_mp, idxOf_nil, idxOf_cons, tellS_nil, tellS_cons, tellO_cells, tellO_map, tellO_iter, tellO_dead, store_get0, store_getS, tell_canonL, tell_canon, canonL, AV.canon, Bool.or_true, Bool.or_false, Bool.and_true, Bool.and_false, Bool.not_true, Bool.not_false, Option.some.injEq, canonL_N, canonL_E, canonL_encI, encI, encN, encE]; done) | (simp [go_sem, encN, encE, encI, tell_u, tell_bool, tell_int, tell_str, tell_nilp, tell_nilm, tell_nilI, tell_nilF, tell_agg, tell_tup, tell_ifc, tell_ds, tell_dp, tell_op, tell_os, tell_mp, idxOf_nil, idxOf_cons, tellS_nil, tellS_cons, tellO_cells, tellO_map, tellO_iter, tellO_dead, store_get0, store_getS, tell_canonL, tell_canon, canonL, AV.canon, Bool.or_true, Bool.or_false, Bool.and_true, Bool.and_false, Bool.not_true, Bool.not_false, Option.some.injEq, canonL_N, canonL_E, canonL_encI, encI, encN, encE]; done)), .inr (by first | rfl | (first | exact tell_enc (enc := encN) (sz := 3) (l := n) (fun _ => rfl) rfl (Store.at_hd.trans (if_pos rfl)) rfl (canonL_N _ _) _ _ | exact tell_enc (enc := encE) (sz := 2) (l := e) (fun _ => rfl) rfl (Store.at_tl.trans (Store.at_tl.trans (Store.at_hd.trans (if_pos rfl)))) rfl (canonL_E _ _) _ _ | exact tell_enc (enc := encI) (sz := 1) (l := wantF n 0) (fun _ => rfl) rfl (Store.at_tl.trans (Store.at_hd.trans (if_pos rfl))) rfl (canonL_encI _ _) _ _) | (simp [go_sem, tell_u, tell_bool, tell_int, tell_str, tell_nilp, tell_nilm, tell_nilI, tell_nilF, tell_agg, tell_tup, tell_ifc, tell_ds, tell_dp, tell_op, tell_os, tell_mp, idxOf_nil, idxOf_cons, tellS_nil, tellS_cons, tellO_cells, tellO_map, tellO_iter, tellO_dead, store_get0, store_getS, tell_canonL, tell_canon, canonL, AV.canon, Bool.or_true, Bool.or_false, Bool.and_true, Bool.and_false, Bool.not_true, Bool.not_false, Option.some.injEq, canonL_N, canonL_E, canonL_encI, encI, encN, encE]; done) | (simp [go_sem, encN, encE, encI, tell_u, tell_bool, tell_int, tell_str, tell_nilp, tell_nilm, tell_nilI, tell_nilF, tell_agg, tell_tup, tell_ifc, tell_ds, tell_dp, tell_op, tell_os, tell_mp, idxOf_nil, idxOf_cons, tellS_nil, tellS_cons, tellO_cells, tellO_map, tellO_iter, tellO_dead, store_get0, store_getS, tell_canonL, tell_canon, canonL, AV.canon, Bool.or_true, Bool.or_false, Bool.and_true, Bool.and_false, Bool.not_true, Bool.not_false, Option.some.injEq, canonL_N, canonL_E, canonL_encI, encI, encN, encE]; done)), trivial⟩) ?_
          refine opsWp_callD rfl rfl rfl (plan_pc_ev n e (by omega) (by omega) _) ?_
          rw [hpl]; rintro _ _ ⟨rfl, rfl⟩
          refine opsRunN tok 5 ?_
          simp only [go_sem, Nat.reduceLT, Nat.reduceLeDiff, Nat.reduceEqDiff, Nat.reduceAdd, Nat.reduceMul, Nat.reduceSub, reduceIte, reduceCtorEq, encE]
          refine opsWp_nil ?_
          refine hK _ _ (awp_keepM [false, false, false, false, false, false, false, false, true, true, false, false, false, false, false, false, true, true] ?_)
          clear hK K
          try simp only [go_sem, Nat.reduceLT, Nat.reduceLeDiff, Nat.reduceEqDiff, Nat.reduceAdd, Nat.reduceMul, Nat.reduceSub, reduceIte, reduceCtorEq]
          refine awp_seq_k fun K hK => ?_
          refine awp_region ?_
          refine opsRunN tok 3 ?_
          simp only [go_sem, Nat.reduceLT, Nat.reduceLeDiff, Nat.reduceEqDiff, Nat.reduceAdd, Nat.reduceMul, Nat.reduceSub, reduceIte, reduceCtorEq, encE]
          refine ops_if 112 rfl (fun hg112 => ?_) (fun hg112 => ?_)
          · skip
            refine opsRunN tok 2 ?_
            simp only [go_sem, Nat.reduceLT, Nat.reduceLeDiff, Nat.reduceEqDiff, Nat.reduceAdd, Nat.reduceMul, Nat.reduceSub, reduceIte, reduceCtorEq, encE]
            refine opsWp_callD rfl rfl rfl (same_pc_ev (wantF n 0) (wantF n 0) (by omega) (by omega) _) ?_
            rintro _ _ ⟨rfl, rfl⟩
            refine opsRunN tok 2 ?_
            simp only [go_sem, Nat.reduceLT, Nat.reduceLeDiff, Nat.reduceEqDiff, Nat.reduceAdd, Nat.reduceMul, Nat.reduceSub, reduceIte, reduceCtorEq, encE]
            refine ops_if 117 rfl (fun hg117 => ?_) (fun hg117 => ?_)
            · skip
              refine opsRunN tok 4 ?_
              simp only [go_sem, Nat.reduceLT, Nat.reduceLeDiff, Nat.reduceEqDiff, Nat.reduceAdd, Nat.reduceMul, Nat.reduceSub, reduceIte, reduceCtorEq, encE]
              refine ops_if 121 rfl (fun hg121 => ?_) (fun hg121 => ?_)
              · skip
                refine opsWp_callD rfl rfl rfl (awake_pc_ev _) ?_
                rintro _ _ ⟨rfl, rfl⟩
                refine opsRunN tok 2 ?_
                simp only [go_sem, Nat.reduceLT, Nat.reduceLeDiff, Nat.reduceEqDiff, Nat.reduceAdd, Nat.reduceMul, Nat.reduceSub, reduceIte, reduceCtorEq, encE]
                refine opsWp_nil ?_
                refine hK _ _ (awp_keepM [false, false, false, false, false, false, true] ?_)
                clear hK K
                try simp only [go_sem, Nat.reduceLT, Nat.reduceLeDiff, Nat.reduceEqDiff, Nat.reduceAdd, Nat.reduceMul, Nat.reduceSub, reduceIte, reduceCtorEq]
                refine awp_ret ?_
                simp only [retQ, resAll, resOne, resAV, exists_eq_left', go_sem, Nat.reduceLT, Nat.reduceLeDiff, Nat.reduceEqDiff, Nat.reduceAdd, Nat.reduceMul, Nat.reduceSub, reduceIte, reduceCtorEq, encE]
                first | rfl | (exfalso; simp_all; done) | (exfalso; omega)
              · skip
                refine opsRunN tok 3 ?_
                simp only [go_sem, Nat.reduceLT, Nat.reduceLeDiff, Nat.reduceEqDiff, Nat.reduceAdd, Nat.reduceMul, Nat.reduceSub, reduceIte, reduceCtorEq, encE]
                refine opsWp_nil ?_
                refine hK _ _ (awp_keepM [false, false, false, false, false, false, true] ?_)
                clear hK K
                try simp only [go_sem, Nat.reduceLT, Nat.reduceLeDiff, Nat.reduceEqDiff, Nat.reduceAdd, Nat.reduceMul, Nat.reduceSub, reduceIte, reduceCtorEq]
                refine awp_ret ?_
                simp only [retQ, resAll, resOne, resAV, exists_eq_left', go_sem, Nat.reduceLT, Nat.reduceLeDiff, Nat.reduceEqDiff, Nat.reduceAdd, Nat.reduceMul, Nat.reduceSub, reduceIte, reduceCtorEq, encE]
                first | rfl | (exfalso; simp_all; done) | (exfalso; omega)
            · skip
              refine opsRunN tok 7 ?_
              simp only [go_sem, Nat.reduceLT, Nat.reduceLeDiff, Nat.reduceEqDiff, Nat.reduceAdd, Nat.reduceMul, Nat.reduceSub, reduceIte, reduceCtorEq, encE]
              refine opsWp_nil ?_
              refine hK _ _ (awp_keepM [false, false, false, false, false, false, true] ?_)
              clear hK K
              try simp only [go_sem, Nat.reduceLT, Nat.reduceLeDiff, Nat.reduceEqDiff, Nat.reduceAdd, Nat.reduceMul, Nat.reduceSub, reduceIte, reduceCtorEq]
              refine awp_ret ?_
              simp only [retQ, resAll, resOne, resAV, exists_eq_left', go_sem, Nat.reduceLT, Nat.reduceLeDiff, Nat.reduceEqDiff, Nat.reduceAdd, Nat.reduceMul, Nat.reduceSub, reduceIte, reduceCtorEq, encE]
              first | rfl | (exfalso; simp_all; done) | (exfalso; omega)
          · skip
            refine opsRunN tok 8 ?_
            simp only [go_sem, Nat.reduceLT, Nat.reduceLeDiff, Nat.reduceEqDiff, Nat.reduceAdd, Nat.reduceMul, Nat.reduceSub, reduceIte, reduceCtorEq, encE]
            refine opsRunN tok 4 ?_
            simp only [go_sem, Nat.reduceLT, Nat.reduceLeDiff, Nat.reduceEqDiff, Nat.reduceAdd, Nat.reduceMul, Nat.reduceSub, reduceIte, reduceCtorEq, encE]
            refine opsWp_nil ?_
            refine hK _ _ (awp_keepM [false, false, false, false, false, false, true] ?_)
            clear hK K
            try simp only [go_sem, Nat.reduceLT, Nat.reduceLeDiff, Nat.reduceEqDiff, Nat.reduceAdd, Nat.reduceMul, Nat.reduceSub, reduceIte, reduceCtorEq]
            refine awp_ret ?_
            simp only [retQ, resAll, resOne, resAV, exists_eq_left', go_sem, Nat.reduceLT, Nat.reduceLeDiff, Nat.reduceEqDiff, Nat.reduceAdd, Nat.reduceMul, Nat.reduceSub, reduceIte, reduceCtorEq, encE]
            first | rfl | (exfalso; simp_all; done) | (exfalso; omega)
    · skip
      refine opsRunN tok 3 ?_
      simp only [go_sem, Nat.reduceLT, Nat.reduceLeDiff, Nat.reduceEqDiff, Nat.reduceAdd, Nat.reduceMul, Nat.reduceSub, reduceIte, reduceCtorEq, encE]
      refine opsWp_nil ?_
      refine hK _ _ (awp_keepM [true, true, true, false, false, false, false, true, true, true, true, false, false, false, false, false, false, false, false, false, false, false, false, false, false, false, false, false, false, false, false, true] ?_)
      clear hK K
      try simp only [go_sem, Nat.reduceLT, Nat.reduceLeDiff, Nat.reduceEqDiff, Nat.reduceAdd, Nat.reduceMul, Nat.reduceSub, reduceIte, reduceCtorEq]
      refine awp_cond_f rfl ?_
      refine awp_exit ?_
      refine hZ1 _ _ ?_
      refine reg tok [false, false, true, false, false, false, false, true, true, true, false, false, false, false, true] fun K hK => ?_
      simp only [go_sem, Nat.reduceLT, Nat.reduceLeDiff, Nat.reduceEqDiff, Nat.reduceAdd, Nat.reduceMul, Nat.reduceSub, reduceIte, reduceCtorEq, encE]
      refine hK _ _ ?_
      clear hK K
      refine awp_seq_k fun Z9 hZ9 => ?_
      refine reg tok [false, false, true, false, false, false, false, true, true, true, false, false, false, false, true, true] fun K hK => ?_
      simp only [go_sem, Nat.reduceLT, Nat.reduceLeDiff, Nat.reduceEqDiff, Nat.reduceAdd, Nat.reduceMul, Nat.reduceSub, reduceIte, reduceCtorEq, encE]
      refine hK _ _ ?_
      clear hK K
      refine awp_virt 14 2 rfl ?_
      simp only [go_sem]
      refine awp_block ?_
      refine awp_loopT (fun m L τ => ∃ (k v3 : Nat) (e : List Ed), m = 21 - k ∧ L = ([.u, .u, (.ds true (es.flatMap encE) es.length false), .u, .u, .u, .u, (.os true 3 0 v1 0 n.length false), (.os true 1 1 v2 0 wl.length false), (.int .i64 al), .u, .u, .u, .u, (.os true 2 2 v3 0 e.length false), (.int .i64 k)] : List AV) ∧ τ = ([.cells v1 (n.flatMap encN), .cells v2 (wl.flatMap encI), .cells v3 (e.flatMap encE)] : Store) ∧ e.length = k ∧ k ≤ 20 ∧ e.all (okE n) = true) _ ⟨0, 0, [], rfl, rfl, rfl, by exact ⟨rfl, by omega, rfl⟩⟩ ?_ ?_
      · exact Tells.mk' [0, 1, 2] false 12 (by decide) (by simp) (by first | rfl | simp) (by first | rfl | simp [tell_u, tell_bool, tell_int, tell_str, tell_nilp, tell_nilm, tell_nilI, tell_nilF, tell_agg, tell_tup, tell_ifc, tell_ds, tell_dp, tell_op, tell_os, tell_mp, idxOf_nil, idxOf_cons, tellS_nil, tellS_cons, tellO_cells, tellO_map, tellO_iter, tellO_dead, store_get0, store_getS, tell_canonL, tell_canon, canonL, AV.canon, Bool.or_true, Bool.or_false, Bool.and_true, Bool.and_false, Bool.not_true, Bool.not_false, Option.some.injEq, canonL_N, canonL_E, canonL_encI, encI, encN, encE]) ⟨.inl rfl, .inl rfl, .inr (by first | exact tell_canon _ _ _ (.ds true (es.flatMap encE) es.length false) 12 (by simp [AV.canon, canonL, canonL_N, canonL_E, canonL_encI, encI, encN, encE]) | rfl | simp [go_sem, tell_u, tell_bool, tell_int, tell_str, tell_nilp, tell_nilm, tell_nilI, tell_nilF, tell_agg, tell_tup, tell_ifc, tell_ds, tell_dp, tell_op, tell_os, tell_mp, idxOf_nil, idxOf_cons, tellS_nil, tellS_cons, tellO_cells, tellO_map, tellO_iter, tellO_dead, store_get0, store_getS, tell_canonL, tell_canon, canonL, AV.canon, Bool.or_true, Bool.or_false, Bool.and_true, Bool.and_false, Bool.not_true, Bool.not_false, Option.some.injEq, canonL_N, canonL_E, canonL_encI, encI, encN, encE]), .inl rfl, .inl rfl, .inl rfl, .inl rfl, .inr (by first | rfl | simp [go_sem, tell_u, tell_bool, tell_int, tell_str, tell_nilp, tell_nilm, tell_nilI, tell_nilF, tell_agg, tell_tup, tell_ifc, tell_ds, tell_dp, tell_op, tell_os, tell_mp, idxOf_nil, idxOf_cons, tellS_nil, tellS_cons, tellO_cells, tellO_map, tellO_iter, tellO_dead, store_get0, store_getS, tell_canonL, tell_canon, canonL, AV.canon, Bool.or_true, Bool.or_false, Bool.and_true, Bool.and_false, Bool.not_true, Bool.not_false, Option.some.injEq]), .inr (by first | rfl | simp [go_sem, tell_u, tell_bool, tell_int, tell_str, tell_nilp, tell_nilm, tell_nilI, tell_nilF, tell_agg, tell_tup, tell_ifc, tell_ds, tell_dp, tell_op, tell_os, tell_mp, idxOf_nil, idxOf_cons, tellS_nil, tellS_cons, tellO_cells, tellO_map, tellO_iter, tellO_dead, store_get0, store_getS, tell_canonL, tell_canon, canonL, AV.canon, Bool.or_true, Bool.or_false, Bool.and_true, Bool.and_false, Bool.not_true, Bool.not_false, Option.some.injEq]), .inr (by first | exact tell_canon _ _ _ (.int .i64 al) 12 (by simp [AV.canon, canonL, canonL_N, canonL_E, canonL_encI, encI, encN, encE]) | rfl | simp [go_sem, tell_u, tell_bool, tell_int, tell_str, tell_nilp, tell_nilm, tell_nilI, tell_nilF, tell_agg, tell_tup, tell_ifc, tell_ds, tell_dp, tell_op, tell_os, tell_mp, idxOf_nil, idxOf_cons, tellS_nil, tellS_cons, tellO_cells, tellO_map, tellO_iter, tellO_dead, store_get0, store_getS, tell_canonL, tell_canon, canonL, AV.canon, Bool.or_true, Bool.or_false, Bool.and_true, Bool.and_false, Bool.not_true, Bool.not_false, Option.some.injEq, canonL_N, canonL_E, canonL_encI, encI, encN, encE]), .inl rfl, .inl rfl, .inl rfl, .inl rfl, .inr (by first | rfl | simp [go_sem, tell_u, tell_bool, tell_int, tell_str, tell_nilp, tell_nilm, tell_nilI, tell_nilF, tell_agg, tell_tup, tell_ifc, tell_ds, tell_dp, tell_op, tell_os, tell_mp, idxOf_nil, idxOf_cons, tellS_nil, tellS_cons, tellO_cells, tellO_map, tellO_iter, tellO_dead, store_get0, store_getS, tell_canonL, tell_canon, canonL, AV.canon, Bool.or_true, Bool.or_false, Bool.and_true, Bool.and_false, Bool.not_true, Bool.not_false, Option.some.injEq]), .inr (by first | exact tell_canon _ _ _ (.int .i64 k) 12 (by simp [AV.canon, canonL, canonL_N, canonL_E, canonL_encI, encI, encN, encE]) | rfl | simp [go_sem, tell_u, tell_bool, tell_int, tell_str, tell_nilp, tell_nilm, tell_nilI, tell_nilF, tell_agg, tell_tup, tell_ifc, tell_ds, tell_dp, tell_op, tell_os, tell_mp, idxOf_nil, idxOf_cons, tellS_nil, tellS_cons, tellO_cells, tellO_map, tellO_iter, tellO_dead, store_get0, store_getS, tell_canonL, tell_canon, canonL, AV.canon, Bool.or_true, Bool.or_false, Bool.and_true, Bool.and_false, Bool.not_true, Bool.not_false, Option.some.injEq, canonL_N, canonL_E, canonL_encI, encI, encN, encE]), trivial⟩
      rintro m L τ ⟨k, v3, e, rfl, rfl, rfl, hek, hk2, heo⟩
      refine awp_seq_k fun Z10 hZ10 => ?_
      refine awp_seq_k fun K hK => ?_
      refine awp_region ?_
      refine opsRunN tok 5 ?_
      simp only [go_sem, Nat.reduceLT, Nat.reduceLeDiff, Nat.reduceEqDiff, Nat.reduceAdd, Nat.reduceMul, Nat.reduceSub, reduceIte, reduceCtorEq, encE]
      refine ops_if 73 rfl (fun hg73 => ?_) (fun hg73 => ?_)
      · skip
        refine opsRunN tok 4 ?_
        simp only [go_sem, Nat.reduceLT, Nat.reduceLeDiff, Nat.reduceEqDiff, Nat.reduceAdd, Nat.reduceMul, Nat.reduceSub, reduceIte, reduceCtorEq, encE]
        refine ops_if 77 rfl (fun hg77 => ?_) (fun hg77 => ?_)
        · skip
          refine opsRunN tok 4 ?_
          simp only [go_sem, Nat.reduceLT, Nat.reduceLeDiff, Nat.reduceEqDiff, Nat.reduceAdd, Nat.reduceMul, Nat.reduceSub, reduceIte, reduceCtorEq, encE]
          refine opsWp_nil ?_
          refine hK _ _ (awp_keepM [false, false, true, false, false, false, false, true, true, true, false, false, false, false, true, true, false, false, false, false, false, false, false, false, false, false, false, false, false, false, false, false, false, false, false, false, false, false, false, false, false, false, false, false, false, false, false, false, false, false, false, false, false, false, false, false, false, false, false, false, false, false, false, false, false, false, false, false, false, false, false, false, false, false, false, false, false, false, false, false, false, true] ?_)
          clear hK K
          try simp only [go_sem, Nat.reduceLT, Nat.reduceLeDiff, Nat.reduceEqDiff, Nat.reduceAdd, Nat.reduceMul, Nat.reduceSub, reduceIte, reduceCtorEq]
          refine awp_if rfl (fun hcc17 => ?_) (fun hcc17 => ?_)
          · skip
            refine awp_skip ?_
            refine hZ10 _ _ ?_
            refine awp_seq_k fun Z11 hZ11 => ?_
            refine awp_block ?_
            have hk20 : k < 20 := by omega
            have hke : k < es.length := by omega
            have hn0 : 0 < n.length := by omega
            have hn6 := hW.len
            have hwk : IntKind.i64.wrap ((k : Int) + 1) = ((k + 1 : Nat) : Int) := by rw [i64_in (by omega) (by omega)]; simp
            have jx := fun nl tt q => encE_E.idx (l := es) (k := (k : Int)) (by omega) (by omega) nl tt q
            have j0 := fun σ => encE_E.fld0 (f := 3) rfl rfl (l := es) (i := k) hke σ
            have j1 := fun σ => encE_E.fld (f := 3) rfl rfl (l := es) (i := k) hke (o := 1) (by decide) σ
            obtain ⟨x, hx, hx0, hx1⟩ := place_lt es[k].f n.length (by omega) (by omega)
            obtain ⟨y, hy, hy0, hy1⟩ := place_lt es[k].t n.length (by omega) (by omega)
            have cx := fun σ => place_pc_ev es[k].f n.length (by omega) σ
            have cy := fun σ => place_pc_ev es[k].t n.length (by omega) σ
            simp only [hx, hy] at cx cy
            have c1 : ((e.length + 1) * 16 ≤ 140737488355328) = True := eq_true (by omega)
            have c2 : (e.flatMap encE).length = e.length * 2 := enc_length (enc := encE) (sz := 2) (fun _ => rfl) _
            refine DW.start (T := tab) [.any, .any, .any, .any, .any, .at [], .any, .at [], .eff, .any, .any, .any, .any, .own, .any, .own, .eff, .any, .eff, .eff, .any] [2] ?_
            refine DW.runN tok 8 ?_
            simp only [go_sem, Nat.reduceLT, Nat.reduceLeDiff, Nat.reduceEqDiff, Nat.reduceAdd, Nat.reduceMul, Nat.reduceSub, reduceIte, reduceCtorEq, encE, jx, j0, j1, Int.toNat_natCast, evAppend, c1, c2, zeroRun, List.range_succ, List.range_zero, true_and, Nat.reduceMod, encE_one]
            refine DW.call rfl rfl rfl (cx _) ?_
            refine DW.runN tok 7 ?_
            simp only [go_sem, Nat.reduceLT, Nat.reduceLeDiff, Nat.reduceEqDiff, Nat.reduceAdd, Nat.reduceMul, Nat.reduceSub, reduceIte, reduceCtorEq, encE, jx, j0, j1, Int.toNat_natCast, evAppend, c1, c2, zeroRun, List.range_succ, List.range_zero, true_and, Nat.reduceMod, encE_one]
            refine DW.call rfl rfl rfl (cy _) ?_
            refine DW.runN tok 4 ?_
            simp only [go_sem, Nat.reduceLT, Nat.reduceLeDiff, Nat.reduceEqDiff, Nat.reduceAdd, Nat.reduceMul, Nat.reduceSub, reduceIte, reduceCtorEq, evBuildSlice, zeroRun, evAppendTo, lenOfAV, srcCells, encE, jx, j0, j1, Int.toNat_natCast, evAppend, c1, c2, List.range_succ, List.range_zero, true_and, Nat.reduceMod, encE_one]
            refine DW.fin tok (by decide +kernel) rfl ?_
            refine hZ11 _ _ ?_
            refine regEnd tok ?_
            simp only [go_sem, Nat.reduceLT, Nat.reduceLeDiff, Nat.reduceEqDiff, Nat.reduceAdd, Nat.reduceMul, Nat.reduceSub, reduceIte, reduceCtorEq, encE, hwk]
            refine ⟨_, _, _, ?_, ⟨k + 1, v3 + 1, e ++ [⟨x, y⟩], rfl, rfl, rfl, ?_⟩, ?_⟩
            · omega
            · exact ⟨by simp [hek], by omega, by rw [List.all_append, heo]; simp [okE]; omega⟩
            · exact Tells.mk' [0, 1, 2] false 12 (by decide) (by simp) (by first | rfl | simp) (by first | rfl | simp [tell_u, tell_bool, tell_int, tell_str, tell_nilp, tell_nilm, tell_nilI, tell_nilF, tell_agg, tell_tup, tell_ifc, tell_ds, tell_dp, tell_op, tell_os, tell_mp, idxOf_nil, idxOf_cons, tellS_nil, tellS_cons, tellO_cells, tellO_map, tellO_iter, tellO_dead, store_get0, store_getS, tell_canonL, tell_canon, canonL, AV.canon, Bool.or_true, Bool.or_false, Bool.and_true, Bool.and_false, Bool.not_true, Bool.not_false, Option.some.injEq, canonL_N, canonL_E, canonL_encI, encI, encN, encE]) ⟨.inl rfl, .inl rfl, .inr (by first | exact tell_canon _ _ _ (.ds true (es.flatMap encE) es.length false) 12 (by simp [AV.canon, canonL, canonL_N, canonL_E, canonL_encI, encI, encN, encE]) | rfl | simp [go_sem, tell_u, tell_bool, tell_int, tell_str, tell_nilp, tell_nilm, tell_nilI, tell_nilF, tell_agg, tell_tup, tell_ifc, tell_ds, tell_dp, tell_op, tell_os, tell_mp, idxOf_nil, idxOf_cons, tellS_nil, tellS_cons, tellO_cells, tellO_map, tellO_iter, tellO_dead, store_get0, store_getS, tell_canonL, tell_canon, canonL, AV.canon, Bool.or_true, Bool.or_false, Bool.and_true, Bool.and_false, Bool.not_true, Bool.not_false, Option.some.injEq, canonL_N, canonL_E, canonL_encI, encI, encN, encE]), .inl rfl, .inl rfl, .inl rfl, .inl rfl, .inr (by first | rfl | simp [go_sem, tell_u, tell_bool, tell_int, tell_str, tell_nilp, tell_nilm, tell_nilI, tell_nilF, tell_agg, tell_tup, tell_ifc, tell_ds, tell_dp, tell_op, tell_os, tell_mp, idxOf_nil, idxOf_cons, tellS_nil, tellS_cons, tellO_cells, tellO_map, tellO_iter, tellO_dead, store_get0, store_getS, tell_canonL, tell_canon, canonL, AV.canon, Bool.or_true, Bool.or_false, Bool.and_true, Bool.and_false, Bool.not_true, Bool.not_false, Option.some.injEq]), .inr (by first | rfl | simp [go_sem, tell_u, tell_bool, tell_int, tell_str, tell_nilp, tell_nilm, tell_nilI, tell_nilF, tell_agg, tell_tup, tell_ifc, tell_ds, tell_dp, tell_op, tell_os, tell_mp, idxOf_nil, idxOf_cons, tellS_nil, tellS_cons, tellO_cells, tellO_map, tellO_iter, tellO_dead, store_get0, store_getS, tell_canonL, tell_canon, canonL, AV.canon, Bool.or_true, Bool.or_false, Bool.and_true, Bool.and_false, Bool.not_true, Bool.not_false, Option.some.injEq]), .inr (by first | exact tell_canon _ _ _ (.int .i64 al) 12 (by simp [AV.canon, canonL, canonL_N, canonL_E, canonL_encI, encI, encN, encE]) | rfl | simp [go_sem, tell_u, tell_bool, tell_int, tell_str, tell_nilp, tell_nilm, tell_nilI, tell_nilF, tell_agg, tell_tup, tell_ifc, tell_ds, tell_dp, tell_op, tell_os, tell_mp, idxOf_nil, idxOf_cons, tellS_nil, tellS_cons, tellO_cells, tellO_map, tellO_iter, tellO_dead, store_get0, store_getS, tell_canonL, tell_canon, canonL, AV.canon, Bool.or_true, Bool.or_false, Bool.and_true, Bool.and_false, Bool.not_true, Bool.not_false, Option.some.injEq, canonL_N, canonL_E, canonL_encI, encI, encN, encE]), .inl rfl, .inl rfl, .inl rfl, .inl rfl, .inr (by first | rfl | simp [go_sem, tell_u, tell_bool, tell_int, tell_str, tell_nilp, tell_nilm, tell_nilI, tell_nilF, tell_agg, tell_tup, tell_ifc, tell_ds, tell_dp, tell_op, tell_os, tell_mp, idxOf_nil, idxOf_cons, tellS_nil, tellS_cons, tellO_cells, tellO_map, tellO_iter, tellO_dead, store_get0, store_getS, tell_canonL, tell_canon, canonL, AV.canon, Bool.or_true, Bool.or_false, Bool.and_true, Bool.and_false, Bool.not_true, Bool.not_false, Option.some.injEq]), .inr (by first | exact tell_canon _ _ _ (.int .i64 k) 12 (by simp [AV.canon, canonL, canonL_N, canonL_E, canonL_encI, encI, encN, encE]) | rfl | simp [go_sem, tell_u, tell_bool, tell_int, tell_str, tell_nilp, tell_nilm, tell_nilI, tell_nilF, tell_agg, tell_tup, tell_ifc, tell_ds, tell_dp, tell_op, tell_os, tell_mp, idxOf_nil, idxOf_cons, tellS_nil, tellS_cons, tellO_cells, tellO_map, tellO_iter, tellO_dead, store_get0, store_getS, tell_canonL, tell_canon, canonL, AV.canon, Bool.or_true, Bool.or_false, Bool.and_true, Bool.and_false, Bool.not_true, Bool.not_false, Option.some.injEq, canonL_N, canonL_E, canonL_encI, encI, encN, encE]), trivial⟩
          · skip
            refine awp_exit ?_
            refine hZ9 _ _ ?_
            have hpl := hW.plan heo (by omega)
            have hwl := wantF_len hW.near 0
            have hn6 := hW.len
            have hpr := hW.prod
            subst hwl0 hal
            refine awp_seq_k fun K hK => ?_
            refine awp_region ?_
            refine opsRunN tok 2 ?_
            simp only [go_sem, Nat.reduceLT, Nat.reduceLeDiff, Nat.reduceEqDiff, Nat.reduceAdd, Nat.reduceMul, Nat.reduceSub, reduceIte, reduceCtorEq, encE]
            refine opsWp_tells [.u, .u, .u, .u, .u, .u, .u, .u, (.ds true ((wantF n 0).flatMap encI) (wantF n 0).length false), (.int .i64 (prodS n)), .u, .u, .u, .u, .u, .u, .u, .u, .u, .u, .u, .u, .u, .u, .u, .u, .u, .u, .u, .u, .u, .u, .u, .u, .u, .u, .u, .u, .u, .u, .u, .u, .u, .u, .u, .u, .u, .u, .u, .u, .u, .u, .u, .u, .u, .u, .u, .u, .u, .u, .u, .u, .u, .u, .u, .u, .u, .u, .u, .u, .u, .u, .u, .u, .u, .u, .u, .u, .u, .u, .u, .u, .u, .u, .u, .u, .u, .u, .u, .u, .u, .u, .u, .u, .u, .u, .u, .u, .u, .u, .u, .u, .u, .u, .u, (.ds true (n.flatMap encN) n.length false), (.ds true (e.flatMap encE) e.length false)] [] (Tells.mk' [] true 12 (by decide) (by simp) (by first | rfl | simp) (by first | rfl | simp [tell_u, tell_bool, tell_int, tell_str, tell_nilp, tell_nilm, tell_nilI, tell_nilF, tell_agg, tell_tup, tell_ifc, tell_ds, tell_dp, tell_op, tell_os, tell_mp, idxOf_nil, idxOf_cons, tellS_nil, tellS_cons, tellO_cells, tellO_map, tellO_iter, tellO_dead, store_get0, store_getS, tell_canonL, tell_canon, canonL, AV.canon, Bool.or_true, Bool.or_false, Bool.and_true, Bool.and_false, Bool.not_true, Bool.not_false, Option.some.injEq, canonL_N, canonL_E, canonL_encI, encI, encN, encE]) ⟨.inl rfl, .inl rfl, .inl rfl, .inl rfl, .inl rfl, .inl rfl, .inl rfl, .inl rfl, .inr (by first | rfl | (first | exact tell_enc (enc := encN) (sz := 3) (l := n) (fun _ => rfl) rfl (Store.at_hd.trans (if_pos rfl)) rfl (canonL_N _ _) _ _ | exact tell_enc (enc := encE) (sz := 2) (l := e) (fun _ => rfl) rfl (Store.at_tl.trans (Store.at_tl.trans (Store.at_hd.trans (if_pos rfl)))) rfl (canonL_E _ _) _ _ | exact tell_enc (enc := encI) (sz := 1) (l := wantF n 0) (fun _ => rfl) rfl (Store.at_tl.trans (Store.at_hd.trans (if_pos rfl))) rfl (canonL_encI _ _) _ _) | (simp [go_sem, tell_u, tell_bool, tell_int, tell_str, tell_nilp, tell_nilm, tell_nilI, tell_nilF, tell_agg, tell_tup, tell_ifc, tell_ds, tell_dp, tell_op, tell_os, tell_mp, idxOf_nil, idxOf_cons, tellS_nil, tellS_cons, tellO_cells, tellO_map, tellO_iter, tellO_dead, store_get0, store_getS, tell_canonL, tell_canon, canonL, AV.canon, Bool.or_true, Bool.or_false, Bool.and_true, Bool.and_false, Bool.not_true, Bool.not_false, Option.some.injEq, canonL_N, canonL_E, canonL_encI, encI, encN, encE]; done) | (simp [go_sem, encN, encE, encI, tell_u, tell_bool, tell_int, tell_str, tell_nilp, tell_nilm, tell_nilI, tell_nilF, tell_agg, tell_tup, tell_ifc, tell_ds, tell_dp, tell_op, tell_os, tell_mp, idxOf_nil, idxOf_cons, tellS_nil, tellS_cons, tellO_cells, tellO_map, tellO_iter, tellO_dead, store_get0, store_getS, tell_canonL, tell_canon, canonL, AV.canon, Bool.or_true, Bool.or_false, Bool.and_true, Bool.and_false, Bool.not_true, Bool.not_false, Option.some.injEq, canonL_N, canonL_E, canonL_encI, encI, encN, encE]; done)), .inr (by first | rfl | (first | exact tell_enc (enc := encN) (sz := 3) (l := n) (fun _ => rfl) rfl (Store.at_hd.trans (if_pos rfl)) rfl (canonL_N _ _) _ _ | exact tell_enc (enc := encE) (sz := 2) (l := e) (fun _ => rfl) rfl (Store.at_tl.trans (Store.at_tl.trans (Store.at_hd.trans (if_pos rfl)))) rfl (canonL_E _ _) _ _ | exact tell_enc (enc := encI) (sz := 1) (l := wantF n 0) (fun _ => rfl) rfl (Store.at_tl.trans (Store.at_hd.trans (if_pos rfl))) rfl (canonL_encI _ _) _ _) | (simp [go_sem, tell_u, tell_bool, tell_int, tell_str, tell_nilp, tell_nilm, tell_nilI, tell_nilF, tell_agg, tell_tup, tell_ifc, tell_ds, tell_dp, tell_op, tell_os, tell_mp, idxOf_nil, idxOf_cons, tellS_nil, tellS_cons, tellO_cells, tellO_map, tellO_iter, tellO_dead, store_get0, store_getS, tell_canonL, tell_canon, canonL, AV.canon, Bool.or_true, Bool.or_false, Bool.and_true, Bool.and_false, Bool.not_true, Bool.not_false, Option.some.injEq, canonL_N, canonL_E, canonL_encI, encI, encN, encE]; done) | (simp [go_sem, encN, encE, encI, tell_u, tell_bool, tell_int, tell_str, tell_nilp, tell_nilm, tell_nilI, tell_nilF, tell_agg, tell_tup, tell_ifc, tell_ds, tell_dp, tell_op, tell_os, tell_mp, idxOf_nil, idxOf_cons, tellS_nil, tellS_cons, tellO_cells, tellO_map, tellO_iter, tellO_dead, store_get0, store_getS, tell_canonL, tell_canon, canonL, AV.canon, Bool.or_true, Bool.or_false, Bool.and_true, Bool.and_false, Bool.not_true, Bool.not_false, Option.some.injEq, canonL_N, canonL_E, canonL_encI, encI, encN, encE]; done)), .inl rfl, .inl rfl, .inl rfl, .inl rfl, .inl rfl, .inl rfl, .inl rfl, .inl rfl, .inl rfl, .inl rfl, .inl rfl, .inl rfl, .inl rfl, .inl rfl, .inl rfl, .inl rfl, .inl rfl, .inl rfl, .inl rfl, .inl rfl, .inl rfl, .inl rfl, .inl rfl, .inl rfl, .inl rfl, .inl rfl, .inl rfl, .inl rfl, .inl rfl, .inl rfl, .inl rfl, .inl rfl, .inl rfl, .inl rfl, .inl rfl, .inl rfl, .inl rfl, .inl rfl, .inl rfl, .inl rfl, .inl rfl, .inl rfl, .inl rfl, .inl rfl, .inl rfl, .inl rfl, .inl rfl, .inl rfl, .inl rfl, .inl rfl, .inl rfl, .inl rfl, .inl rfl, .inl rfl, .inl rfl, .inl rfl, .inl rfl, .inl rfl, .inl rfl, .inl rfl, .inl rfl, .inl rfl, .inl rfl, .inl rfl, .inl rfl, .inl rfl, .inl rfl, .inl rfl, .inl rfl, .inl rfl, .inl rfl, .inl rfl, .inl rfl, .inl rfl, .inl rfl, .inl rfl, .inl rfl, .inl rfl, .inl rfl, .inl rfl, .inl rfl, .inl rfl, .inl rfl, .inl rfl, .inl rfl, .inl rfl, .inl rfl, .inl rfl, .inl rfl, .inl rfl, .inl rfl, .inl rfl, .inl rfl, .inl rfl, .inl rfl, .inr (by first | rfl | (first | exact tell_enc (enc := encN) (sz := 3) (l := n) (fun _ => rfl) rfl (Store.at_hd.trans (if_pos rfl)) rfl (canonL_N _ _) _ _ | exact tell_enc (enc := encE) (sz := 2) (l := e) (fun _ => rfl) rfl (Store.at_tl.trans (Store.at_tl.trans (Store.at_hd.trans (if_pos rfl)))) rfl (canonL_E _ _) _ _ | exact tell_enc (enc := encI) (sz := 1) (l := wantF n 0) (fun _ => rfl) rfl (Store.at_tl.trans (Store.at_hd.trans (if_pos rfl))) rfl (canonL_encI _ _) _ _) | (simp [go_sem, tell_u, tell_bool, tell_int, tell_str, tell_nilp, tell_nilm, tell_nilI, tell_nilF, tell_agg, tell_tup, tell_ifc, tell_ds, tell_dp, tell_op, tell_os, tell_mp, idxOf_nil, idxOf_cons, tellS_nil, tellS_cons, tellO_cells, tellO_map, tellO_iter, tellO_dead, store_get0, store_getS, tell_canonL, tell_canon, canonL, AV.canon, Bool.or_true, Bool.or_false, Bool.and_true, Bool.and_false, Bool.not_true, Bool.not_false, Option.some.injEq, canonL_N, canonL_E, canonL_encI, encI, encN, encE]; done) | (simp [go_sem, encN, encE, encI, tell_u, tell_bool, tell_int, tell_str, tell_nilp, tell_nilm, tell_nilI, tell_nilF, tell_agg, tell_tup, tell_ifc, tell_ds, tell_dp, tell_op, tell_os, tell_mp, idxOf_nil, idxOf_cons, tellS_nil, tellS_cons, tellO_cells, tellO_map, tellO_iter, tellO_dead, store_get0, store_getS, tell_canonL, tell_canon, canonL, AV.canon, Bool.or_true, Bool.or_false, Bool.and_true, Bool.and_false, Bool.not_true, Bool.not_false, Option.some.injEq, canonL_N, canonL_E, canonL_encI, encI, encN, encE]; done)), .inr (by first | rfl | (first | exact tell_enc (enc := encN) (sz := 3) (l := n) (fun _ => rfl) rfl (Store.at_hd.trans (if_pos rfl)) rfl (canonL_N _ _) _ _ | exact tell_enc (enc := encE) (sz := 2) (l := e) (fun _ => rfl) rfl (Store.at_tl.trans (Store.at_tl.trans (Store.at_hd.trans (if_pos rfl)))) rfl (canonL_E _ _) _ _ | exact tell_enc (enc := encI) (sz := 1) (l := wantF n 0) (fun _ => rfl) rfl (Store.at_tl.trans (Store.at_hd.trans (if_pos rfl))) rfl (canonL_encI _ _) _ _) | (simp [go_sem, tell_u, tell_bool, tell_int, tell_str, tell_nilp, tell_nilm, tell_nilI, tell_nilF, tell_agg, tell_tup, tell_ifc, tell_ds, tell_dp, tell_op, tell_os, tell_mp, idxOf_nil, idxOf_cons, tellS_nil, tellS_cons, tellO_cells, tellO_map, tellO_iter, tellO_dead, store_get0, store_getS, tell_canonL, tell_canon, canonL, AV.canon, Bool.or_true, Bool.or_false, Bool.and_true, Bool.and_false, Bool.not_true, Bool.not_false, Option.some.injEq, canonL_N, canonL_E, canonL_encI, encI, encN, encE]; done) | (simp [go_sem, encN, encE, encI, tell_u, tell_bool, tell_int, tell_str, tell_nilp, tell_nilm, tell_nilI, tell_nilF, tell_agg, tell_tup, tell_ifc, tell_ds, tell_dp, tell_op, tell_os, tell_mp, idxOf_nil, idxOf_cons, tellS_nil, tellS_cons, tellO_cells, tellO_map, tellO_iter, tellO_dead, store_get0, store_getS, tell_canonL, tell_canon, canonL, AV.canon, Bool.or_true, Bool.or_false, Bool.and_true, Bool.and_false, Bool.not_true, Bool.not_false, Option.some.injEq, canonL_N, canonL_E, canonL_encI, encI, encN, encE]; done)), trivial⟩) ?_
            refine opsWp_callD rfl rfl rfl (plan_pc_ev n e (by omega) (by omega) _) ?_
            rw [hpl]; rintro _ _ ⟨rfl, rfl⟩
            refine opsRunN tok 5 ?_
            simp only [go_sem, Nat.reduceLT, Nat.reduceLeDiff, Nat.reduceEqDiff, Nat.reduceAdd, Nat.reduceMul, Nat.reduceSub, reduceIte, reduceCtorEq, encE]
            refine opsWp_nil ?_
            refine hK _ _ (awp_keepM [false, false, false, false, false, false, false, false, true, true, false, false, false, false, false, false, true, true] ?_)
            clear hK K
            try simp only [go_sem, Nat.reduceLT, Nat.reduceLeDiff, Nat.reduceEqDiff, Nat.reduceAdd, Nat.reduceMul, Nat.reduceSub, reduceIte, reduceCtorEq]
            refine awp_seq_k fun K hK => ?_
            refine awp_region ?_
            refine opsRunN tok 3 ?_
            simp only [go_sem, Nat.reduceLT, Nat.reduceLeDiff, Nat.reduceEqDiff, Nat.reduceAdd, Nat.reduceMul, Nat.reduceSub, reduceIte, reduceCtorEq, encE]
            refine ops_if 112 rfl (fun hg112 => ?_) (fun hg112 => ?_)
            · skip
              refine opsRunN tok 2 ?_
              simp only [go_sem, Nat.reduceLT, Nat.reduceLeDiff, Nat.reduceEqDiff, Nat.reduceAdd, Nat.reduceMul, Nat.reduceSub, reduceIte, reduceCtorEq, encE]
              refine opsWp_callD rfl rfl rfl (same_pc_ev (wantF n 0) (wantF n 0) (by omega) (by omega) _) ?_
              rintro _ _ ⟨rfl, rfl⟩
              refine opsRunN tok 2 ?_
              simp only [go_sem, Nat.reduceLT, Nat.reduceLeDiff, Nat.reduceEqDiff, Nat.reduceAdd, Nat.reduceMul, Nat.reduceSub, reduceIte, reduceCtorEq, encE]
              refine ops_if 117 rfl (fun hg117 => ?_) (fun hg117 => ?_)
              · skip
                refine opsRunN tok 4 ?_
                simp only [go_sem, Nat.reduceLT, Nat.reduceLeDiff, Nat.reduceEqDiff, Nat.reduceAdd, Nat.reduceMul, Nat.reduceSub, reduceIte, reduceCtorEq, encE]
                refine ops_if 121 rfl (fun hg121 => ?_) (fun hg121 => ?_)
                · skip
                  refine opsWp_callD rfl rfl rfl (awake_pc_ev _) ?_
                  rintro _ _ ⟨rfl, rfl⟩
                  refine opsRunN tok 2 ?_
                  simp only [go_sem, Nat.reduceLT, Nat.reduceLeDiff, Nat.reduceEqDiff, Nat.reduceAdd, Nat.reduceMul, Nat.reduceSub, reduceIte, reduceCtorEq, encE]
                  refine opsWp_nil ?_
                  refine hK _ _ (awp_keepM [false, false, false, false, false, false, true] ?_)
                  clear hK K
                  try simp only [go_sem, Nat.reduceLT, Nat.reduceLeDiff, Nat.reduceEqDiff, Nat.reduceAdd, Nat.reduceMul, Nat.reduceSub, reduceIte, reduceCtorEq]
                  refine awp_ret ?_
                  simp only [retQ, resAll, resOne, resAV, exists_eq_left', go_sem, Nat.reduceLT, Nat.reduceLeDiff, Nat.reduceEqDiff, Nat.reduceAdd, Nat.reduceMul, Nat.reduceSub, reduceIte, reduceCtorEq, encE]
                  first | rfl | (exfalso; simp_all; done) | (exfalso; omega)
                · skip
                  refine opsRunN tok 3 ?_
                  simp only [go_sem, Nat.reduceLT, Nat.reduceLeDiff, Nat.reduceEqDiff, Nat.reduceAdd, Nat.reduceMul, Nat.reduceSub, reduceIte, reduceCtorEq, encE]
                  refine opsWp_nil ?_
                  refine hK _ _ (awp_keepM [false, false, false, false, false, false, true] ?_)
                  clear hK K
                  try simp only [go_sem, Nat.reduceLT, Nat.reduceLeDiff, Nat.reduceEqDiff, Nat.reduceAdd, Nat.reduceMul, Nat.reduceSub, reduceIte, reduceCtorEq]
                  refine awp_ret ?_
                  simp only [retQ, resAll, resOne, resAV, exists_eq_left', go_sem, Nat.reduceLT, Nat.reduceLeDiff, Nat.reduceEqDiff, Nat.reduceAdd, Nat.reduceMul, Nat.reduceSub, reduceIte, reduceCtorEq, encE]
                  first | rfl | (exfalso; simp_all; done) | (exfalso; omega)
              · skip
                refine opsRunN tok 7 ?_
                simp only [go_sem, Nat.reduceLT, Nat.reduceLeDiff, Nat.reduceEqDiff, Nat.reduceAdd, Nat.reduceMul, Nat.reduceSub, reduceIte, reduceCtorEq, encE]
                refine opsWp_nil ?_
                refine hK _ _ (awp_keepM [false, false, false, false, false, false, true] ?_)
                clear hK K
                try simp only [go_sem, Nat.reduceLT, Nat.reduceLeDiff, Nat.reduceEqDiff, Nat.reduceAdd, Nat.reduceMul, Nat.reduceSub, reduceIte, reduceCtorEq]
                refine awp_ret ?_
                simp only [retQ, resAll, resOne, resAV, exists_eq_left', go_sem, Nat.reduceLT, Nat.reduceLeDiff, Nat.reduceEqDiff, Nat.reduceAdd, Nat.reduceMul, Nat.reduceSub, reduceIte, reduceCtorEq, encE]
                first | rfl | (exfalso; simp_all; done) | (exfalso; omega)
            · skip
              refine opsRunN tok 8 ?_
              simp only [go_sem, Nat.reduceLT, Nat.reduceLeDiff, Nat.reduceEqDiff, Nat.reduceAdd, Nat.reduceMul, Nat.reduceSub, reduceIte, reduceCtorEq, encE]
              refine opsRunN tok 4 ?_
              simp only [go_sem, Nat.reduceLT, Nat.reduceLeDiff, Nat.reduceEqDiff, Nat.reduceAdd, Nat.reduceMul, Nat.reduceSub, reduceIte, reduceCtorEq, encE]
              refine opsWp_nil ?_
              refine hK _ _ (awp_keepM [false, false, false, false, false, false, true] ?_)
              clear hK K
              try simp only [go_sem, Nat.reduceLT, Nat.reduceLeDiff, Nat.reduceEqDiff, Nat.reduceAdd, Nat.reduceMul, Nat.reduceSub, reduceIte, reduceCtorEq]
              refine awp_ret ?_
              simp only [retQ, resAll, resOne, resAV, exists_eq_left', go_sem, Nat.reduceLT, Nat.reduceLeDiff, Nat.reduceEqDiff, Nat.reduceAdd, Nat.reduceMul, Nat.reduceSub, reduceIte, reduceCtorEq, encE]
              first | rfl | (exfalso; simp_all; done) | (exfalso; omega)
        · skip
          refine opsRunN tok 4 ?_
          simp only [go_sem, Nat.reduceLT, Nat.reduceLeDiff, Nat.reduceEqDiff, Nat.reduceAdd, Nat.reduceMul, Nat.reduceSub, reduceIte, reduceCtorEq, encE]
          refine opsWp_nil ?_
          refine hK _ _ (awp_keepM [false, false, true, false, false, false, false, true, true, true, false, false, false, false, true, true, false, false, false, false, false, false, false, false, false, false, false, false, false, false, false, false, false, false, false, false, false, false, false, false, false, false, false, false, false, false, false, false, false, false, false, false, false, false, false, false, false, false, false, false, false, false, false, false, false, false, false, false, false, false, false, false, false, false, false, false, false, false, false, false, false, true] ?_)
          clear hK K
          try simp only [go_sem, Nat.reduceLT, Nat.reduceLeDiff, Nat.reduceEqDiff, Nat.reduceAdd, Nat.reduceMul, Nat.reduceSub, reduceIte, reduceCtorEq]
          refine awp_cond_f rfl ?_
          refine awp_exit ?_
          refine hZ9 _ _ ?_
          have hpl := hW.plan heo (by omega)
          have hwl := wantF_len hW.near 0
          have hn6 := hW.len
          have hpr := hW.prod
          subst hwl0 hal
          refine awp_seq_k fun K hK => ?_
          refine awp_region ?_
          refine opsRunN tok 2 ?_
          simp only [go_sem, Nat.reduceLT, Nat.reduceLeDiff, Nat.reduceEqDiff, Nat.reduceAdd, Nat.reduceMul, Nat.reduceSub, reduceIte, reduceCtorEq, encE]
          refine opsWp_tells [.u, .u, .u, .u, .u, .u, .u, .u, (.ds true ((wantF n 0).flatMap encI) (wantF n 0).length false), (.int .i64 (prodS n)), .u, .u, .u, .u, .u, .u, .u, .u, .u, .u, .u, .u, .u, .u, .u, .u, .u, .u, .u, .u, .u, .u, .u, .u, .u, .u, .u, .u, .u, .u, .u, .u, .u, .u, .u, .u, .u, .u, .u, .u, .u, .u, .u, .u, .u, .u, .u, .u, .u, .u, .u, .u, .u, .u, .u, .u, .u, .u, .u, .u, .u, .u, .u, .u, .u, .u, .u, .u, .u, .u, .u, .u, .u, .u, .u, .u, .u, .u, .u, .u, .u, .u, .u, .u, .u, .u, .u, .u, .u, .u, .u, .u, .u, .u, .u, (.ds true (n.flatMap encN) n.length false), (.ds true (e.flatMap encE) e.length false)] [] (Tells.mk' [] true 12 (by decide) (by simp) (by first | rfl | simp) (by first | rfl | simp [tell_u, tell_bool, tell_int, tell_str, tell_nilp, tell_nilm, tell_nilI, tell_nilF, tell_agg, tell_tup, tell_ifc, tell_ds, tell_dp, tell_op, tell_os, tell_mp, idxOf_nil, idxOf_cons, tellS_nil, tellS_cons, tellO_cells, tellO_map, tellO_iter, tellO_dead, store_get0, store_getS, tell_canonL, tell_canon, canonL, AV.canon, Bool.or_true, Bool.or_false, Bool.and_true, Bool.and_false, Bool.not_true, Bool.not_false, Option.some.injEq, canonL_N, canonL_E, canonL_encI, encI, encN, encE]) ⟨.inl rfl, .inl rfl, .inl rfl, .inl rfl, .inl rfl, .inl rfl, .inl rfl, .inl rfl, .inr (by first | rfl | (first | exact tell_enc (enc := encN) (sz := 3) (l := n) (fun _ => rfl) rfl (Store.at_hd.trans (if_pos rfl)) rfl (canonL_N _ _) _ _ | exact tell_enc (enc := encE) (sz := 2) (l := e) (fun _ => rfl) rfl (Store.at_tl.trans (Store.at_tl.trans (Store.at_hd.trans (if_pos rfl)))) rfl (canonL_E _ _) _ _ | exact tell_enc (enc := encI) (sz := 1) (l := wantF n 0) (fun _ => rfl) rfl (Store.at_tl.trans (Store.at_hd.trans (if_pos rfl))) rfl (canonL_encI _ _) _ _) | (simp [go_sem, tell_u, tell_bool, tell_int, tell_str, tell_nilp, tell_nilm, tell_nilI, tell_nilF, tell_agg, tell_tup, tell_ifc, tell_ds, tell_dp, tell_op, tell_os, tell_mp, idxOf_nil, idxOf_cons, tellS_nil, tellS_cons, tellO_cells, tellO_map, tellO_iter, tellO_dead, store_get0, store_getS, tell_canonL, tell_canon, canonL, AV.canon, Bool.or_true, Bool.or_false, Bool.and_true, Bool.and_false, Bool.not_true, Bool.not_false, Option.some.injEq, canonL_N, canonL_E, canonL_encI, encI, encN, encE]; done) | (simp [go_sem, encN, encE, encI, tell_u, tell_bool, tell_int, tell_str, tell_nilp, tell_nilm, tell_nilI, tell_nilF, tell_agg, tell_tup, tell_ifc, tell_ds, tell_dp, tell_op, tell_os, tell_mp, idxOf_nil, idxOf_cons, tellS_nil, tellS_cons, tellO_cells, tellO_map, tellO_iter, tellO_dead, store_get0, store_getS, tell_canonL, tell_canon, canonL, AV.canon, Bool.or_true, Bool.or_false, Bool.and_true, Bool.and_false, Bool.not_true, Bool.not_false, Option.some.injEq, canonL_N, canonL_E, canonL_encI, encI, encN, encE]; done)), .inr (by first | rfl | (first | exact tell_enc (enc := encN) (sz := 3) (l := n) (fun _ => rfl) rfl (Store.at_hd.trans (if_pos rfl)) rfl (canonL_N _ _) _ _ | exact tell_enc (enc := encE) (sz := 2) (l := e) (fun _ => rfl) rfl (Store.at_tl.trans (Store.at_tl.trans (Store.at_hd.trans (if_pos rfl)))) rfl (canonL_E _ _) _ _ | exact tell_enc (enc := encI) (sz := 1) (l := wantF n 0) (fun _ => rfl) rfl (Store.at_tl.trans (Store.at_hd.trans (if_pos rfl))) rfl (canonL_encI _ _) _ _) | (simp [go_sem, tell_u, tell_bool, tell_int, tell_str, tell_nilp, tell_nilm, tell_nilI, tell_nilF, tell_agg, tell_tup, tell_ifc, tell_ds, tell_dp, tell_op, tell_os, tell_mp, idxOf_nil, idxOf_cons, tellS_nil, tellS_cons, tellO_cells, tellO_map, tellO_iter, tellO_dead, store_get0, store_getS, tell_canonL, tell_canon, canonL, AV.canon, Bool.or_true, Bool.or_false, Bool.and_true, Bool.and_false, Bool.not_true, Bool.not_false, Option.some.injEq, canonL_N, canonL_E, canonL_encI, encI, encN, encE]; done) | (simp [go_sem, encN, encE, encI, tell_u, tell_bool, tell_int, tell_str, tell_nilp, tell_nilm, tell_nilI, tell_nilF, tell_agg, tell_tup, tell_ifc, tell_ds, tell_dp, tell_op, tell_os, tell_mp, idxOf_nil, idxOf_cons, tellS_nil, tellS_cons, tellO_cells, tellO_map, tellO_iter, tellO_dead, store_get0, store_getS, tell_canonL, tell_canon, canonL, AV.canon, Bool.or_true, Bool.or_false, Bool.and_true, Bool.and_false, Bool.not_true, Bool.not_false, Option.some.injEq, canonL_N, canonL_E, canonL_encI, encI, encN, encE]; done)), .inl rfl, .inl rfl, .inl rfl, .inl rfl, .inl rfl, .inl rfl, .inl rfl, .inl rfl, .inl rfl, .inl rfl, .inl rfl, .inl rfl, .inl rfl, .inl rfl, .inl rfl, .inl rfl, .inl rfl, .inl rfl, .inl rfl, .inl rfl, .inl rfl, .inl rfl, .inl rfl, .inl rfl, .inl rfl, .inl rfl, .inl rfl, .inl rfl, .inl rfl, .inl rfl, .inl rfl, .inl rfl, .inl rfl, .inl rfl, .inl rfl, .inl rfl, .inl rfl, .inl rfl, .inl rfl, .inl rfl, .inl rfl, .inl rfl, .inl rfl, .inl rfl, .inl rfl, .inl rfl, .inl rfl, .inl rfl, .inl rfl, .inl rfl, .inl rfl, .inl rfl, .inl rfl, .inl rfl, .inl rfl, .inl rfl, .inl rfl, .inl rfl, .inl rfl, .inl rfl, .inl rfl, .inl rfl, .inl rfl, .inl rfl, .inl rfl, .inl rfl, .inl rfl, .inl rfl, .inl rfl, .inl rfl, .inl rfl, .inl rfl, .inl rfl, .inl rfl, .inl rfl, .inl rfl, .inl rfl, .inl rfl, .inl rfl, .inl rfl, .inl rfl, .inl rfl, .inl rfl, .inl rfl, .inl rfl, .inl rfl, .inl rfl, .inl rfl, .inl rfl, .inl rfl, .inl rfl, .inl rfl, .inl rfl, .inl rfl, .inl rfl, .inr (by first | rfl | (first | exact tell_enc (enc := encN) (sz := 3) (l := n) (fun _ => rfl) rfl (Store.at_hd.trans (if_pos rfl)) rfl (canonL_N _ _) _ _ | exact tell_enc (enc := encE) (sz := 2) (l := e) (fun _ => rfl) rfl (Store.at_tl.trans (Store.at_tl.trans (Store.at_hd.trans (if_pos rfl)))) rfl (canonL_E _ _) _ _ | exact tell_enc (enc := encI) (sz := 1) (l := wantF n 0) (fun _ => rfl) rfl (Store.at_tl.trans (Store.at_hd.trans (if_pos rfl))) rfl (canonL_encI _ _) _ _) | (simp [go_sem, tell_u, tell_bool, tell_int, tell_str, tell_nilp, tell_nilm, tell_nilI, tell_nilF, tell_agg, tell_tup, tell_ifc, tell_ds, tell_dp, tell_op, tell_os, tell_mp, idxOf_nil, idxOf_cons, tellS_nil, tellS_cons, tellO_cells, tellO_map, tellO_iter, tellO_dead, store_get0, store_getS, tell_canonL, tell_canon, canonL, AV.canon, Bool.or_true, Bool.or_false, Bool.and_true, Bool.and_false, Bool.not_true, Bool.not_false, Option.some.injEq, canonL_N, canonL_E, canonL_encI, encI, encN, encE]; done) | (simp [go_sem, encN, encE, encI, tell_u, tell_bool, tell_int, tell_str, tell_nilp, tell_nilm, tell_nilI, tell_nilF, tell_agg, tell_tup, tell_ifc, tell_ds, tell_dp, tell_op, tell_os, tell_mp, idxOf_nil, idxOf_cons, tellS_nil, tellS_cons, tellO_cells, tellO_map, tellO_iter, tellO_dead, store_get0, store_getS, tell_canonL, tell_canon, canonL, AV.canon, Bool.or_true, Bool.or_false, Bool.and_true, Bool.and_false, Bool.not_true, Bool.not_false, Option.some.injEq, canonL_N, canonL_E, canonL_encI, encI, encN, encE]; done)), .inr (by first | rfl | (first | exact tell_enc (enc := encN) (sz := 3) (l := n) (fun _ => rfl) rfl (Store.at_hd.trans (if_pos rfl)) rfl (canonL_N _ _) _ _ | exact tell_enc (enc := encE) (sz := 2) (l := e) (fun _ => rfl) rfl (Store.at_tl.trans (Store.at_tl.trans (Store.at_hd.trans (if_pos rfl)))) rfl (canonL_E _ _) _ _ | exact tell_enc (enc := encI) (sz := 1) (l := wantF n 0) (fun _ => rfl) rfl (Store.at_tl.trans (Store.at_hd.trans (if_pos rfl))) rfl (canonL_encI _ _) _ _) | (simp [go_sem, tell_u, tell_bool, tell_int, tell_str, tell_nilp, tell_nilm, tell_nilI, tell_nilF, tell_agg, tell_tup, tell_ifc, tell_ds, tell_dp, tell_op, tell_os, tell_mp, idxOf_nil, idxOf_cons, tellS_nil, tellS_cons, tellO_cells, tellO_map, tellO_iter, tellO_dead, store_get0, store_getS, tell_canonL, tell_canon, canonL, AV.canon, Bool.or_true, Bool.or_false, Bool.and_true, Bool.and_false, Bool.not_true, Bool.not_false, Option.some.injEq, canonL_N, canonL_E, canonL_encI, encI, encN, encE]; done) | (simp [go_sem, encN, encE, encI, tell_u, tell_bool, tell_int, tell_str, tell_nilp, tell_nilm, tell_nilI, tell_nilF, tell_agg, tell_tup, tell_ifc, tell_ds, tell_dp, tell_op, tell_os, tell_mp, idxOf_nil, idxOf_cons, tellS_nil, tellS_cons, tellO_cells, tellO_map, tellO_iter, tellO_dead, store_get0, store_getS, tell_canonL, tell_canon, canonL, AV.canon, Bool.or_true, Bool.or_false, Bool.and_true, Bool.and_false, Bool.not_true, Bool.not_false, Option.some.injEq, canonL_N, canonL_E, canonL_encI, encI, encN, encE]; done)), trivial⟩) ?_
          refine opsWp_callD rfl rfl rfl (plan_pc_ev n e (by omega) (by omega) _) ?_
          rw [hpl]; rintro _ _ ⟨rfl, rfl⟩
          refine opsRunN tok 5 ?_
          simp only [go_sem, Nat.reduceLT, Nat.reduceLeDiff, Nat.reduceEqDiff, Nat.reduceAdd, Nat.reduceMul, Nat.reduceSub, reduceIte, reduceCtorEq, encE]
          refine opsWp_nil ?_
          refine hK _ _ (awp_keepM [false, false, false, false, false, false, false, false, true, true, false, false, false, false, false, false, true, true] ?_)
          clear hK K
          try simp only [go_sem, Nat.reduceLT, Nat.reduceLeDiff, Nat.reduceEqDiff, Nat.reduceAdd, Nat.reduceMul, Nat.reduceSub, reduceIte, reduceCtorEq]
          refine awp_seq_k fun K hK => ?_
          refine awp_region ?_
          refine opsRunN tok 3 ?_
          simp only [go_sem, Nat.reduceLT, Nat.reduceLeDiff, Nat.reduceEqDiff, Nat.reduceAdd, Nat.reduceMul, Nat.reduceSub, reduceIte, reduceCtorEq, encE]
          refine ops_if 112 rfl (fun hg112 => ?_) (fun hg112 => ?_)
          · skip
            refine opsRunN tok 2 ?_
            simp only [go_sem, Nat.reduceLT, Nat.reduceLeDiff, Nat.reduceEqDiff, Nat.reduceAdd, Nat.reduceMul, Nat.reduceSub, reduceIte, reduceCtorEq, encE]
            refine opsWp_callD rfl rfl rfl (same_pc_ev (wantF n 0) (wantF n 0) (by omega) (by omega) _) ?_
            rintro _ _ ⟨rfl, rfl⟩
            refine opsRunN tok 2 ?_
            simp only [go_sem, Nat.reduceLT, Nat.reduceLeDiff, Nat.reduceEqDiff, Nat.reduceAdd, Nat.reduceMul, Nat.reduceSub, reduceIte, reduceCtorEq, encE]
            refine ops_if 117 rfl (fun hg117 => ?_) (fun hg117 => ?_)
            · skip
              refine opsRunN tok 4 ?_
              simp only [go_sem, Nat.reduceLT, Nat.reduceLeDiff, Nat.reduceEqDiff, Nat.reduceAdd, Nat.reduceMul, Nat.reduceSub, reduceIte, reduceCtorEq, encE]
              refine ops_if 121 rfl (fun hg121 => ?_) (fun hg121 => ?_)
              · skip
                refine opsWp_callD rfl rfl rfl (awake_pc_ev _) ?_
                rintro _ _ ⟨rfl, rfl⟩
                refine opsRunN tok 2 ?_
                simp only [go_sem, Nat.reduceLT, Nat.reduceLeDiff, Nat.reduceEqDiff, Nat.reduceAdd, Nat.reduceMul, Nat.reduceSub, reduceIte, reduceCtorEq, encE]
                refine opsWp_nil ?_
                refine hK _ _ (awp_keepM [false, false, false, false, false, false, true] ?_)
                clear hK K
                try simp only [go_sem, Nat.reduceLT, Nat.reduceLeDiff, Nat.reduceEqDiff, Nat.reduceAdd, Nat.reduceMul, Nat.reduceSub, reduceIte, reduceCtorEq]
                refine awp_ret ?_
                simp only [retQ, resAll, resOne, resAV, exists_eq_left', go_sem, Nat.reduceLT, Nat.reduceLeDiff, Nat.reduceEqDiff, Nat.reduceAdd, Nat.reduceMul, Nat.reduceSub, reduceIte, reduceCtorEq, encE]
                first | rfl | (exfalso; simp_all; done) | (exfalso; omega)
              · skip
                refine opsRunN tok 3 ?_
                simp only [go_sem, Nat.reduceLT, Nat.reduceLeDiff, Nat.reduceEqDiff, Nat.reduceAdd, Nat.reduceMul, Nat.reduceSub, reduceIte, reduceCtorEq, encE]
                refine opsWp_nil ?_
                refine hK _ _ (awp_keepM [false, false, false, false, false, false, true] ?_)
                clear hK K
                try simp only [go_sem, Nat.reduceLT, Nat.reduceLeDiff, Nat.reduceEqDiff, Nat.reduceAdd, Nat.reduceMul, Nat.reduceSub, reduceIte, reduceCtorEq]
                refine awp_ret ?_
                simp only [retQ, resAll, resOne, resAV, exists_eq_left', go_sem, Nat.reduceLT, Nat.reduceLeDiff, Nat.reduceEqDiff, Nat.reduceAdd, Nat.reduceMul, Nat.reduceSub, reduceIte, reduceCtorEq, encE]
                first | rfl | (exfalso; simp_all; done) | (exfalso; omega)
            · skip
              refine opsRunN tok 7 ?_
              simp only [go_sem, Nat.reduceLT, Nat.reduceLeDiff, Nat.reduceEqDiff, Nat.reduceAdd, Nat.reduceMul, Nat.reduceSub, reduceIte, reduceCtorEq, encE]
              refine opsWp_nil ?_
              refine hK _ _ (awp_keepM [false, false, false, false, false, false, true] ?_)
              clear hK K
              try simp only [go_sem, Nat.reduceLT, Nat.reduceLeDiff, Nat.reduceEqDiff, Nat.reduceAdd, Nat.reduceMul, Nat.reduceSub, reduceIte, reduceCtorEq]
              refine awp_ret ?_
              simp only [retQ, resAll, resOne, resAV, exists_eq_left', go_sem, Nat.reduceLT, Nat.reduceLeDiff, Nat.reduceEqDiff, Nat.reduceAdd, Nat.reduceMul, Nat.reduceSub, reduceIte, reduceCtorEq, encE]
              first | rfl | (exfalso; simp_all; done) | (exfalso; omega)
          · skip
            refine opsRunN tok 8 ?_
            simp only [go_sem, Nat.reduceLT, Nat.reduceLeDiff, Nat.reduceEqDiff, Nat.reduceAdd, Nat.reduceMul, Nat.reduceSub, reduceIte, reduceCtorEq, encE]
            refine opsRunN tok 4 ?_
            simp only [go_sem, Nat.reduceLT, Nat.reduceLeDiff, Nat.reduceEqDiff, Nat.reduceAdd, Nat.reduceMul, Nat.reduceSub, reduceIte, reduceCtorEq, encE]
            refine opsWp_nil ?_
            refine hK _ _ (awp_keepM [false, false, false, false, false, false, true] ?_)
            clear hK K
            try simp only [go_sem, Nat.reduceLT, Nat.reduceLeDiff, Nat.reduceEqDiff, Nat.reduceAdd, Nat.reduceMul, Nat.reduceSub, reduceIte, reduceCtorEq]
            refine awp_ret ?_
            simp only [retQ, resAll, resOne, resAV, exists_eq_left', go_sem, Nat.reduceLT, Nat.reduceLeDiff, Nat.reduceEqDiff, Nat.reduceAdd, Nat.reduceMul, Nat.reduceSub, reduceIte, reduceCtorEq, encE]
            first | rfl | (exfalso; simp_all; done) | (exfalso; omega)
      · skip
        refine opsRunN tok 8 ?_
        simp only [go_sem, Nat.reduceLT, Nat.reduceLeDiff, Nat.reduceEqDiff, Nat.reduceAdd, Nat.reduceMul, Nat.reduceSub, reduceIte, reduceCtorEq, encE]
        refine opsWp_nil ?_
        refine hK _ _ (awp_keepM [false, false, true, false, false, false, false, true, true, true, false, false, false, false, true, true, false, false, false, false, false, false, false, false, false, false, false, false, false, false, false, false, false, false, false, false, false, false, false, false, false, false, false, false, false, false, false, false, false, false, false, false, false, false, false, false, false, false, false, false, false, false, false, false, false, false, false, false, false, false, false, false, false, false, false, false, false, false, false, false, false, true] ?_)
        clear hK K
        try simp only [go_sem, Nat.reduceLT, Nat.reduceLeDiff, Nat.reduceEqDiff, Nat.reduceAdd, Nat.reduceMul, Nat.reduceSub, reduceIte, reduceCtorEq]
        refine awp_cond_f rfl ?_
        refine awp_exit ?_
        refine hZ9 _ _ ?_
        have hpl := hW.plan heo (by omega)
        have hwl := wantF_len hW.near 0
        have hn6 := hW.len
        have hpr := hW.prod
        subst hwl0 hal
        refine awp_seq_k fun K hK => ?_
        refine awp_region ?_
        refine opsRunN tok 2 ?_
        simp only [go_sem, Nat.reduceLT, Nat.reduceLeDiff, Nat.reduceEqDiff, Nat.reduceAdd, Nat.reduceMul, Nat.reduceSub, reduceIte, reduceCtorEq, encE]
        refine opsWp_tells [.u, .u, .u, .u, .u, .u, .u, .u, (.ds true ((wantF n 0).flatMap encI) (wantF n 0).length false), (.int .i64 (prodS n)), .u, .u, .u, .u, .u, .u, .u, .u, .u, .u, .u, .u, .u, .u, .u, .u, .u, .u, .u, .u, .u, .u, .u, .u, .u, .u, .u, .u, .u, .u, .u, .u, .u, .u, .u, .u, .u, .u, .u, .u, .u, .u, .u, .u, .u, .u, .u, .u, .u, .u, .u, .u, .u, .u, .u, .u, .u, .u, .u, .u, .u, .u, .u, .u, .u, .u, .u, .u, .u, .u, .u, .u, .u, .u, .u, .u, .u, .u, .u, .u, .u, .u, .u, .u, .u, .u, .u, .u, .u, .u, .u, .u, .u, .u, .u, (.ds true (n.flatMap encN) n.length false), (.ds true (e.flatMap encE) e.length false)] [] (Tells.mk' [] true 12 (by decide) (by simp) (by first | rfl | simp) (by first | rfl | simp [tell_u, tell_bool, tell_int, tell_str, tell_nilp, tell_nilm, tell_nilI, tell_nilF, tell_agg, tell_tup, tell_ifc, tell_ds, tell_dp, tell_op, tell_os, tell_mp, idxOf_nil, idxOf_cons, tellS_nil, tellS_cons, tellO_cells, tellO_map, tellO_iter, tellO_dead, store_get0, store_getS, tell_canonL, tell_canon, canonL, AV.canon, Bool.or_true, Bool.or_false, Bool.and_true, Bool.and_false, Bool.not_true, Bool.not_false, Option.some.injEq, canonL_N, canonL_E, canonL_encI, encI, encN, encE]) ⟨.inl rfl, .inl rfl, .inl rfl, .inl rfl, .inl rfl, .inl rfl, .inl rfl, .inl rfl, .inr (by first | rfl | (first | exact tell_enc (enc := encN) (sz := 3) (l := n) (fun _ => rfl) rfl (Store.at_hd.trans (if_pos rfl)) rfl (canonL_N _ _) _ _ | exact tell_enc (enc := encE) (sz := 2) (l := e) (fun _ => rfl) rfl (Store.at_tl.trans (Store.at_tl.trans (Store.at_hd.trans (if_pos rfl)))) rfl (canonL_E _ _) _ _ | exact tell_enc (enc := encI) (sz := 1) (l := wantF n 0) (fun _ => rfl) rfl (Store.at_tl.trans (Store.at_hd.trans (if_pos rfl))) rfl (canonL_encI _ _) _ _) | (simp [go_sem, tell_u, tell_bool, tell_int, tell_str, tell_nilp, tell_nilm, tell_nilI, tell_nilF, tell_agg, tell_tup, tell_ifc, tell_ds, tell_dp, tell_op, tell_os, tell_mp, idxOf_nil, idxOf_cons, tellS_nil, tellS_cons, tellO_cells, tellO_map, tellO_iter, tellO_dead, store_get0, store_getS, tell_canonL, tell_canon, canonL, AV.canon, Bool.or_true, Bool.or_false, Bool.and_true, Bool.and_false, Bool.not_true, Bool.not_false, Option.some.injEq, canonL_N, canonL_E, canonL_encI, encI, encN, encE]; done) | (simp [go_sem, encN, encE, encI, tell_u, tell_bool, tell_int, tell_str, tell_nilp, tell_nilm, tell_nilI, tell_nilF, tell_agg, tell_tup, tell_ifc, tell_ds, tell_dp, tell_op, tell_os, tell_mp, idxOf_nil, idxOf_cons, tellS_nil, tellS_cons, tellO_cells, tellO_map, tellO_iter, tellO_dead, store_get0, store_getS, tell_canonL, tell_canon, canonL, AV.canon, Bool.or_true, Bool.or_false, Bool.and_true, Bool.and_false, Bool.not_true, Bool.not_false, Option.some.injEq, canonL_N, canonL_E, canonL_encI, encI, encN, encE]; done)), .inr (by first | rfl | (first | exact tell_enc (enc := encN) (sz := 3) (l := n) (fun _ => rfl) rfl (Store.at_hd.trans (if_pos rfl)) rfl (canonL_N _ _) _ _ | exact tell_enc (enc := encE) (sz := 2) (l := e) (fun _ => rfl) rfl (Store.at_tl.trans (Store.at_tl.trans (Store.at_hd.trans (if_pos rfl)))) rfl (canonL_E _ _) _ _ | exact tell_enc (enc := encI) (sz := 1) (l := wantF n 0) (fun _ => rfl) rfl (Store.at_tl.trans (Store.at_hd.trans (if_pos rfl))) rfl (canonL_encI _ _) _ _) | (simp [go_sem, tell_u, tell_bool, tell_int, tell_str, tell_nilp, tell_nilm, tell_nilI, tell_nilF, tell_agg, tell_tup, tell_ifc, tell_ds, tell_dp, tell_op, tell_os, tell_mp, idxOf_nil, idxOf_cons, tellS_nil, tellS_cons, tellO_cells, tellO_map, tellO_iter, tellO_dead, store_get0, store_getS, tell_canonL, tell_canon, canonL, AV.canon, Bool.or_true, Bool.or_false, Bool.and_true, Bool.and_false, Bool.not_true, Bool.not_false, Option.some.injEq, canonL_N, canonL_E, canonL_encI, encI, encN, encE]; done) | (simp [go_sem, encN, encE, encI, tell_u, tell_bool, tell_int, tell_str, tell_nilp, tell_nilm, tell_nilI, tell_nilF, tell_agg, tell_tup, tell_ifc, tell_ds, tell_dp, tell_op, tell_os, tell_mp, idxOf_nil, idxOf_cons, tellS_nil, tellS_cons, tellO_cells, tellO_map, tellO_iter, tellO_dead, store_get0, store_getS, tell_canonL, tell_canon, canonL, AV.canon, Bool.or_true, Bool.or_false, Bool.and_true, Bool.and_false, Bool.not_true, Bool.not_false, Option.some.injEq, canonL_N, canonL_E, canonL_encI, encI, encN, encE]; done)), .inl rfl, .inl rfl, .inl rfl, .inl rfl, .inl rfl, .inl rfl, .inl rfl, .inl rfl, .inl rfl, .inl rfl, .inl rfl, .inl rfl, .inl rfl, .inl rfl, .inl rfl, .inl rfl, .inl rfl, .inl rfl, .inl rfl, .inl rfl, .inl rfl, .inl rfl, .inl rfl, .inl rfl, .inl rfl, .inl rfl, .inl rfl, .inl rfl, .inl rfl, .inl rfl, .inl rfl, .inl rfl, .inl rfl, .inl rfl, .inl rfl, .inl rfl, .inl rfl, .inl rfl, .inl rfl, .inl rfl, .inl rfl, .inl rfl, .inl rfl, .inl rfl, .inl rfl, .inl rfl, .inl rfl, .inl rfl, .inl rfl, .inl rfl, .inl rfl, .inl rfl, .inl rfl, .inl rfl, .inl rfl, .inl rfl, .inl rfl, .inl rfl, .inl rfl, .inl rfl, .inl rfl, .inl rfl, .inl rfl, .inl rfl, .inl rfl, .inl rfl, .inl rfl, .inl rfl, .inl rfl, .inl rfl, .inl rfl, .inl rfl, .inl rfl, .inl rfl, .inl rfl, .inl rfl, .inl rfl, .inl rfl, .inl rfl, .inl rfl, .inl rfl, .inl rfl, .inl rfl, .inl rfl, .inl rfl, .inl rfl, .inl rfl, .inl rfl, .inl rfl, .inl rfl, .inl rfl, .inl rfl, .inl rfl, .inl rfl, .inl rfl, .inr (by first | rfl | (first | exact tell_enc (enc := encN) (sz := 3) (l := n) (fun _ => rfl) rfl (Store.at_hd.trans (if_pos rfl)) rfl (canonL_N _ _) _ _ | exact tell_enc (enc := encE) (sz := 2) (l := e) (fun _ => rfl) rfl (Store.at_tl.trans (Store.at_tl.trans (Store.at_hd.trans (if_pos rfl)))) rfl (canonL_E _ _) _ _ | exact tell_enc (enc := encI) (sz := 1) (l := wantF n 0) (fun _ => rfl) rfl (Store.at_tl.trans (Store.at_hd.trans (if_pos rfl))) rfl (canonL_encI _ _) _ _) | (simp [go_sem, tell_u, tell_bool, tell_int, tell_str, tell_nilp, tell_nilm, tell_nilI, tell_nilF, tell_agg, tell_tup, tell_ifc, tell_ds, tell_dp, tell_op, tell_os, tell_mp, idxOf_nil, idxOf_cons, tellS_nil, tellS_cons, tellO_cells, tellO_map, tellO_iter, tellO_dead, store_get0, store_getS, tell_canonL, tell_canon, canonL, AV.canon, Bool.or_true, Bool.or_false, Bool.and_true, Bool.and_false, Bool.not_true, Bool.not_false, Option.some.injEq, canonL_N, canonL_E, canonL_encI, encI, encN, encE]; done) | (simp [go_sem, encN, encE, encI, tell_u, tell_bool, tell_int, tell_str, tell_nilp, tell_nilm, tell_nilI, tell_nilF, tell_agg, tell_tup, tell_ifc, tell_ds, tell_dp, tell_op, tell_os, tell_mp, idxOf_nil, idxOf_cons, tellS_nil, tellS_cons, tellO_cells, tellO_map, tellO_iter, tellO_dead, store_get0, store_getS, tell_canonL, tell_canon, canonL, AV.canon, Bool.or_true, Bool.or_false, Bool.and_true, Bool.and_false, Bool.not_true, Bool.not_false, Option.some.injEq, canonL_N, canonL_E, canonL_encI, encI, encN, encE]; done)), .inr (by first | rfl | (first | exact tell_enc (enc := encN) (sz := 3) (l := n) (fun _ => rfl) rfl (Store.at_hd.trans (if_pos rfl)) rfl (canonL_N _ _) _ _ | exact tell_enc (enc := encE) (sz := 2) (l := e) (fun _ => rfl) rfl (Store.at_tl.trans (Store.at_tl.trans (Store.at_hd.trans (if_pos rfl)))) rfl (canonL_E _ _) _ _ | exact tell_enc (enc := encI) (sz := 1) (l := wantF n 0) (fun _ => rfl) rfl (Store.at_tl.trans (Store.at_hd.trans (if_pos rfl))) rfl (canonL_encI _ _) _ _) | (simp [go_sem, tell_u, tell_bool, tell_int, tell_str, tell_nilp, tell_nilm, tell_nilI, tell_nilF, tell_agg, tell_tup, tell_ifc, tell_ds, tell_dp, tell_op, tell_os, tell_mp, idxOf_nil, idxOf_cons, tellS_nil, tellS_cons, tellO_cells, tellO_map, tellO_iter, tellO_dead, store_get0, store_getS, tell_canonL, tell_canon, canonL, AV.canon, Bool.or_true, Bool.or_false, Bool.and_true, Bool.and_false, Bool.not_true, Bool.not_false, Option.some.injEq, canonL_N, canonL_E, canonL_encI, encI, encN, encE]; done) | (simp [go_sem, encN, encE, encI, tell_u, tell_bool, tell_int, tell_str, tell_nilp, tell_nilm, tell_nilI, tell_nilF, tell_agg, tell_tup, tell_ifc, tell_ds, tell_dp, tell_op, tell_os, tell_mp, idxOf_nil, idxOf_cons, tellS_nil, tellS_cons, tellO_cells, tellO_map, tellO_iter, tellO_dead, store_get0, store_getS, tell_canonL, tell_canon, canonL, AV.canon, Bool.or_true, Bool.or_false, Bool.and_true, Bool.and_false, Bool.not_true, Bool.not_false, Option.some.injEq, canonL_N, canonL_E, canonL_encI, encI, encN, encE]; done)), trivial⟩) ?_
        refine opsWp_callD rfl rfl rfl (plan_pc_ev n e (by omega) (by omega) _) ?_
        rw [hpl]; rintro _ _ ⟨rfl, rfl⟩
        refine opsRunN tok 5 ?_
        simp only [go_sem, Nat.reduceLT, Nat.reduceLeDiff, Nat.reduceEqDiff, Nat.reduceAdd, Nat.reduceMul, Nat.reduceSub, reduceIte, reduceCtorEq, encE]
        refine opsWp_nil ?_
        refine hK _ _ (awp_keepM [false, false, false, false, false, false, false, false, true, true, false, false, false, false, false, false, true, true] ?_)
        clear hK K
        try simp only [go_sem, Nat.reduceLT, Nat.reduceLeDiff, Nat.reduceEqDiff, Nat.reduceAdd, Nat.reduceMul, Nat.reduceSub, reduceIte, reduceCtorEq]
        refine awp_seq_k fun K hK => ?_
        refine awp_region ?_
        refine opsRunN tok 3 ?_
        simp only [go_sem, Nat.reduceLT, Nat.reduceLeDiff, Nat.reduceEqDiff, Nat.reduceAdd, Nat.reduceMul, Nat.reduceSub, reduceIte, reduceCtorEq, encE]
        refine ops_if 112 rfl (fun hg112 => ?_) (fun hg112 => ?_)
        · skip
          refine opsRunN tok 2 ?_
          simp only [go_sem, Nat.reduceLT, Nat.reduceLeDiff, Nat.reduceEqDiff, Nat.reduceAdd, Nat.reduceMul, Nat.reduceSub, reduceIte, reduceCtorEq, encE]
          refine opsWp_callD rfl rfl rfl (same_pc_ev (wantF n 0) (wantF n 0) (by omega) (by omega) _) ?_
          rintro _ _ ⟨rfl, rfl⟩
          refine opsRunN tok 2 ?_
          simp only [go_sem, Nat.reduceLT, Nat.reduceLeDiff, Nat.reduceEqDiff, Nat.reduceAdd, Nat.reduceMul, Nat.reduceSub, reduceIte, reduceCtorEq, encE]
          refine ops_if 117 rfl (fun hg117 => ?_) (fun hg117 => ?_)
          · skip
            refine opsRunN tok 4 ?_
            simp only [go_sem, Nat.reduceLT, Nat.reduceLeDiff, Nat.reduceEqDiff, Nat.reduceAdd, Nat.reduceMul, Nat.reduceSub, reduceIte, reduceCtorEq, encE]
            refine ops_if 121 rfl (fun hg121 => ?_) (fun hg121 => ?_)
            · skip
              refine opsWp_callD rfl rfl rfl (awake_pc_ev _) ?_
              rintro _ _ ⟨rfl, rfl⟩
              refine opsRunN tok 2 ?_
              simp only [go_sem, Nat.reduceLT, Nat.reduceLeDiff, Nat.reduceEqDiff, Nat.reduceAdd, Nat.reduceMul, Nat.reduceSub, reduceIte, reduceCtorEq, encE]
              refine opsWp_nil ?_
              refine hK _ _ (awp_keepM [false, false, false, false, false, false, true] ?_)
              clear hK K
              try simp only [go_sem, Nat.reduceLT, Nat.reduceLeDiff, Nat.reduceEqDiff, Nat.reduceAdd, Nat.reduceMul, Nat.reduceSub, reduceIte, reduceCtorEq]
              refine awp_ret ?_
              simp only [retQ, resAll, resOne, resAV, exists_eq_left', go_sem, Nat.reduceLT, Nat.reduceLeDiff, Nat.reduceEqDiff, Nat.reduceAdd, Nat.reduceMul, Nat.reduceSub, reduceIte, reduceCtorEq, encE]
              first | rfl | (exfalso; simp_all; done) | (exfalso; omega)
            · skip
              refine opsRunN tok 3 ?_
              simp only [go_sem, Nat.reduceLT, Nat.reduceLeDiff, Nat.reduceEqDiff, Nat.reduceAdd, Nat.reduceMul, Nat.reduceSub, reduceIte, reduceCtorEq, encE]
              refine opsWp_nil ?_
              refine hK _ _ (awp_keepM [false, false, false, false, false, false, true] ?_)
              clear hK K
              try simp only [go_sem, Nat.reduceLT, Nat.reduceLeDiff, Nat.reduceEqDiff, Nat.reduceAdd, Nat.reduceMul, Nat.reduceSub, reduceIte, reduceCtorEq]
              refine awp_ret ?_
              simp only [retQ, resAll, resOne, resAV, exists_eq_left', go_sem, Nat.reduceLT, Nat.reduceLeDiff, Nat.reduceEqDiff, Nat.reduceAdd, Nat.reduceMul, Nat.reduceSub, reduceIte, reduceCtorEq, encE]
              first | rfl | (exfalso; simp_all; done) | (exfalso; omega)
          · skip
            refine opsRunN tok 7 ?_
            simp only [go_sem, Nat.reduceLT, Nat.reduceLeDiff, Nat.reduceEqDiff, Nat.reduceAdd, Nat.reduceMul, Nat.reduceSub, reduceIte, reduceCtorEq, encE]
            refine opsWp_nil ?_
            refine hK _ _ (awp_keepM [false, false, false, false, false, false, true] ?_)
            clear hK K
            try simp only [go_sem, Nat.reduceLT, Nat.reduceLeDiff, Nat.reduceEqDiff, Nat.reduceAdd, Nat.reduceMul, Nat.reduceSub, reduceIte, reduceCtorEq]
            refine awp_ret ?_
            simp only [retQ, resAll, resOne, resAV, exists_eq_left', go_sem, Nat.reduceLT, Nat.reduceLeDiff, Nat.reduceEqDiff, Nat.reduceAdd, Nat.reduceMul, Nat.reduceSub, reduceIte, reduceCtorEq, encE]
            first | rfl | (exfalso; simp_all; done) | (exfalso; omega)
        · skip
          refine opsRunN tok 8 ?_
          simp only [go_sem, Nat.reduceLT, Nat.reduceLeDiff, Nat.reduceEqDiff, Nat.reduceAdd, Nat.reduceMul, Nat.reduceSub, reduceIte, reduceCtorEq, encE]
          refine opsRunN tok 4 ?_
          simp only [go_sem, Nat.reduceLT, Nat.reduceLeDiff, Nat.reduceEqDiff, Nat.reduceAdd, Nat.reduceMul, Nat.reduceSub, reduceIte, reduceCtorEq, encE]
          refine opsWp_nil ?_
          refine hK _ _ (awp_keepM [false, false, false, false, false, false, true] ?_)
          clear hK K
          try simp only [go_sem, Nat.reduceLT, Nat.reduceLeDiff, Nat.reduceEqDiff, Nat.reduceAdd, Nat.reduceMul, Nat.reduceSub, reduceIte, reduceCtorEq]
          refine awp_ret ?_
          simp only [retQ, resAll, resOne, resAV, exists_eq_left', go_sem, Nat.reduceLT, Nat.reduceLeDiff, Nat.reduceEqDiff, Nat.reduceAdd, Nat.reduceMul, Nat.reduceSub, reduceIte, reduceCtorEq, encE]
          first | rfl | (exfalso; simp_all; done) | (exfalso; omega)
  · skip
    refine opsRunN tok 8 ?_
    simp only [go_sem, Nat.reduceLT, Nat.reduceLeDiff, Nat.reduceEqDiff, Nat.reduceAdd, Nat.reduceMul, Nat.reduceSub, reduceIte, reduceCtorEq, encE]
    refine opsRunN tok 1 ?_
    simp only [go_sem, Nat.reduceLT, Nat.reduceLeDiff, Nat.reduceEqDiff, Nat.reduceAdd, Nat.reduceMul, Nat.reduceSub, reduceIte, reduceCtorEq, encE]
    refine opsWp_nil ?_
    refine hK _ _ (awp_keepM [true, true, true, false, false, false, false, true, true, true, true, false, false, false, false, false, false, false, false, false, false, false, false, false, false, false, false, false, false, false, false, true] ?_)
    clear hK K
    try simp only [go_sem, Nat.reduceLT, Nat.reduceLeDiff, Nat.reduceEqDiff, Nat.reduceAdd, Nat.reduceMul, Nat.reduceSub, reduceIte, reduceCtorEq]
    refine awp_cond_f rfl ?_
    refine awp_exit ?_
    refine hZ1 _ _ ?_
    refine reg tok [false, false, true, false, false, false, false, true, true, true, false, false, false, false, true] fun K hK => ?_
    simp only [go_sem, Nat.reduceLT, Nat.reduceLeDiff, Nat.reduceEqDiff, Nat.reduceAdd, Nat.reduceMul, Nat.reduceSub, reduceIte, reduceCtorEq, encE]
    refine hK _ _ ?_
    clear hK K
    refine awp_seq_k fun Z12 hZ12 => ?_
    refine reg tok [false, false, true, false, false, false, false, true, true, true, false, false, false, false, true, true] fun K hK => ?_
    simp only [go_sem, Nat.reduceLT, Nat.reduceLeDiff, Nat.reduceEqDiff, Nat.reduceAdd, Nat.reduceMul, Nat.reduceSub, reduceIte, reduceCtorEq, encE]
    refine hK _ _ ?_
    clear hK K
    refine awp_virt 14 2 rfl ?_
    simp only [go_sem]
    refine awp_block ?_
    refine awp_loopT (fun m L τ => ∃ (k v3 : Nat) (e : List Ed), m = 21 - k ∧ L = ([.u, .u, (.ds true (es.flatMap encE) es.length false), .u, .u, .u, .u, (.os true 3 0 v1 0 n.length false), (.os true 1 1 v2 0 wl.length false), (.int .i64 al), .u, .u, .u, .u, (.os true 2 2 v3 0 e.length false), (.int .i64 k)] : List AV) ∧ τ = ([.cells v1 (n.flatMap encN), .cells v2 (wl.flatMap encI), .cells v3 (e.flatMap encE)] : Store) ∧ e.length = k ∧ k ≤ 20 ∧ e.all (okE n) = true) _ ⟨0, 0, [], rfl, rfl, rfl, by exact ⟨rfl, by omega, rfl⟩⟩ ?_ ?_
    · exact Tells.mk' [0, 1, 2] false 12 (by decide) (by simp) (by first | rfl | simp) (by first | rfl | simp [tell_u, tell_bool, tell_int, tell_str, tell_nilp, tell_nilm, tell_nilI, tell_nilF, tell_agg, tell_tup, tell_ifc, tell_ds, tell_dp, tell_op, tell_os, tell_mp, idxOf_nil, idxOf_cons, tellS_nil, tellS_cons, tellO_cells, tellO_map, tellO_iter, tellO_dead, store_get0, store_getS, tell_canonL, tell_canon, canonL, AV.canon, Bool.or_true, Bool.or_false, Bool.and_true, Bool.and_false, Bool.not_true, Bool.not_false, Option.some.injEq, canonL_N, canonL_E, canonL_encI, encI, encN, encE]) ⟨.inl rfl, .inl rfl, .inr (by first | exact tell_canon _ _ _ (.ds true (es.flatMap encE) es.length false) 12 (by simp [AV.canon, canonL, canonL_N, canonL_E, canonL_encI, encI, encN, encE]) | rfl | simp [go_sem, tell_u, tell_bool, tell_int, tell_str, tell_nilp, tell_nilm, tell_nilI, tell_nilF, tell_agg, tell_tup, tell_ifc, tell_ds, tell_dp, tell_op, tell_os, tell_mp, idxOf_nil, idxOf_cons, tellS_nil, tellS_cons, tellO_cells, tellO_map, tellO_iter, tellO_dead, store_get0, store_getS, tell_canonL, tell_canon, canonL, AV.canon, Bool.or_true, Bool.or_false, Bool.and_true, Bool.and_false, Bool.not_true, Bool.not_false, Option.some.injEq, canonL_N, canonL_E, canonL_encI, encI, encN, encE]), .inl rfl, .inl rfl, .inl rfl, .inl rfl, .inr (by first | rfl | simp [go_sem, tell_u, tell_bool, tell_int, tell_str, tell_nilp, tell_nilm, tell_nilI, tell_nilF, tell_agg, tell_tup, tell_ifc, tell_ds, tell_dp, tell_op, tell_os, tell_mp, idxOf_nil, idxOf_cons, tellS_nil, tellS_cons, tellO_cells, tellO_map, tellO_iter, tellO_dead, store_get0, store_getS, tell_canonL, tell_canon, canonL, AV.canon, Bool.or_true, Bool.or_false, Bool.and_true, Bool.and_false, Bool.not_true, Bool.not_false, Option.some.injEq]), .inr (by first | rfl | simp [go_sem, tell_u, tell_bool, tell_int, tell_str, tell_nilp, tell_nilm, tell_nilI, tell_nilF, tell_agg, tell_tup, tell_ifc, tell_ds, tell_dp, tell_op, tell_os, tell_mp, idxOf_nil, idxOf_cons, tellS_nil, tellS_cons, tellO_cells, tellO_map, tellO_iter, tellO_dead, store_get0, store_getS, tell_canonL, tell_canon, canonL, AV.canon, Bool.or_true, Bool.or_false, Bool.and_true, Bool.and_false, Bool.not_true, Bool.not_false, Option.some.injEq]), .inr (by first | exact tell_canon _ _ _ (.int .i64 al) 12 (by simp [AV.canon, canonL, canonL_N, canonL_E, canonL_encI, encI, encN, encE]) | rfl | simp [go_sem, tell_u, tell_bool, tell_int, tell_str, tell_nilp, tell_nilm, tell_nilI, tell_nilF, tell_agg, tell_tup, tell_ifc, tell_ds, tell_dp, tell_op, tell_os, tell_mp, idxOf_nil, idxOf_cons, tellS_nil, tellS_cons, tellO_cells, tellO_map, tellO_iter, tellO_dead, store_get0, store_getS, tell_canonL, tell_canon, canonL, AV.canon, Bool.or_true, Bool.or_false, Bool.and_true, Bool.and_false, Bool.not_true, Bool.not_false, Option.some.injEq, canonL_N, canonL_E, canonL_encI, encI, encN, encE]), .inl rfl, .inl rfl, .inl rfl, .inl rfl, .inr (by first | rfl | simp [go_sem, tell_u, tell_bool, tell_int, tell_str, tell_nilp, tell_nilm, tell_nilI, tell_nilF, tell_agg, tell_tup, tell_ifc, tell_ds, tell_dp, tell_op, tell_os, tell_mp, idxOf_nil, idxOf_cons, tellS_nil, tellS_cons, tellO_cells, tellO_map, tellO_iter, tellO_dead, store_get0, store_getS, tell_canonL, tell_canon, canonL, AV.canon, Bool.or_true, Bool.or_false, Bool.and_true, Bool.and_false, Bool.not_true, Bool.not_false, Option.some.injEq]), .inr (by first | exact tell_canon _ _ _ (.int .i64 k) 12 (by simp [AV.canon, canonL, canonL_N, canonL_E, canonL_encI, encI, encN, encE]) | rfl | simp [go_sem, tell_u, tell_bool, tell_int, tell_str, tell_nilp, tell_nilm, tell_nilI, tell_nilF, tell_agg, tell_tup, tell_ifc, tell_ds, tell_dp, tell_op, tell_os, tell_mp, idxOf_nil, idxOf_cons, tellS_nil, tellS_cons, tellO_cells, tellO_map, tellO_iter, tellO_dead, store_get0, store_getS, tell_canonL, tell_canon, canonL, AV.canon, Bool.or_true, Bool.or_false, Bool.and_true, Bool.and_false, Bool.not_true, Bool.not_false, Option.some.injEq, canonL_N, canonL_E, canonL_encI, encI, encN, encE]), trivial⟩
    rintro m L τ ⟨k, v3, e, rfl, rfl, rfl, hek, hk2, heo⟩
    refine awp_seq_k fun Z13 hZ13 => ?_
    refine awp_seq_k fun K hK => ?_
    refine awp_region ?_
    refine opsRunN tok 5 ?_
    simp only [go_sem, Nat.reduceLT, Nat.reduceLeDiff, Nat.reduceEqDiff, Nat.reduceAdd, Nat.reduceMul, Nat.reduceSub, reduceIte, reduceCtorEq, encE]
    refine ops_if 73 rfl (fun hg73 => ?_) (fun hg73 => ?_)
    · skip
      refine opsRunN tok 4 ?_
      simp only [go_sem, Nat.reduceLT, Nat.reduceLeDiff, Nat.reduceEqDiff, Nat.reduceAdd, Nat.reduceMul, Nat.reduceSub, reduceIte, reduceCtorEq, encE]
      refine ops_if 77 rfl (fun hg77 => ?_) (fun hg77 => ?_)
      · skip
        refine opsRunN tok 4 ?_
        simp only [go_sem, Nat.reduceLT, Nat.reduceLeDiff, Nat.reduceEqDiff, Nat.reduceAdd, Nat.reduceMul, Nat.reduceSub, reduceIte, reduceCtorEq, encE]
        refine opsWp_nil ?_
        refine hK _ _ (awp_keepM [false, false, true, false, false, false, false, true, true, true, false, false, false, false, true, true, false, false, false, false, false, false, false, false, false, false, false, false, false, false, false, false, false, false, false, false, false, false, false, false, false, false, false, false, false, false, false, false, false, false, false, false, false, false, false, false, false, false, false, false, false, false, false, false, false, false, false, false, false, false, false, false, false, false, false, false, false, false, false, false, false, true] ?_)
        clear hK K
        try simp only [go_sem, Nat.reduceLT, Nat.reduceLeDiff, Nat.reduceEqDiff, Nat.reduceAdd, Nat.reduceMul, Nat.reduceSub, reduceIte, reduceCtorEq]
        refine awp_if rfl (fun hcc17 => ?_) (fun hcc17 => ?_)
        · skip
          refine awp_skip ?_
          refine hZ13 _ _ ?_
          refine awp_seq_k fun Z14 hZ14 => ?_
          refine awp_block ?_
          have hk20 : k < 20 := by omega
          have hke : k < es.length := by omega
          have hn0 : 0 < n.length := by omega
          have hn6 := hW.len
          have hwk : IntKind.i64.wrap ((k : Int) + 1) = ((k + 1 : Nat) : Int) := by rw [i64_in (by omega) (by omega)]; simp
          have jx := fun nl tt q => encE_E.idx (l := es) (k := (k : Int)) (by omega) (by omega) nl tt q
          have j0 := fun σ => encE_E.fld0 (f := 3) rfl rfl (l := es) (i := k) hke σ
          have j1 := fun σ => encE_E.fld (f := 3) rfl rfl (l := es) (i := k) hke (o := 1) (by decide) σ
          obtain ⟨x, hx, hx0, hx1⟩ := place_lt es[k].f n.length (by omega) (by omega)
          obtain ⟨y, hy, hy0, hy1⟩ := place_lt es[k].t n.length (by omega) (by omega)
          have cx := fun σ => place_pc_ev es[k].f n.length (by omega) σ
          have cy := fun σ => place_pc_ev es[k].t n.length (by omega) σ
          simp only [hx, hy] at cx cy
          have c1 : ((e.length + 1) * 16 ≤ 140737488355328) = True := eq_true (by omega)
          have c2 : (e.flatMap encE).length = e.length * 2 := enc_length (enc := encE) (sz := 2) (fun _ => rfl) _
          refine DW.start (T := tab) [.any, .any, .any, .any, .any, .at [], .any, .at [], .eff, .any, .any, .any, .any, .own, .any, .own, .eff, .any, .eff, .eff, .any] [2] ?_
          refine DW.runN tok 8 ?_
          simp only [go_sem, Nat.reduceLT, Nat.reduceLeDiff, Nat.reduceEqDiff, Nat.reduceAdd, Nat.reduceMul, Nat.reduceSub, reduceIte, reduceCtorEq, encE, jx, j0, j1, Int.toNat_natCast, evAppend, c1, c2, zeroRun, List.range_succ, List.range_zero, true_and, Nat.reduceMod, encE_one]
          refine DW.call rfl rfl rfl (cx _) ?_
          refine DW.runN tok 7 ?_
          simp only [go_sem, Nat.reduceLT, Nat.reduceLeDiff, Nat.reduceEqDiff, Nat.reduceAdd, Nat.reduceMul, Nat.reduceSub, reduceIte, reduceCtorEq, encE, jx, j0, j1, Int.toNat_natCast, evAppend, c1, c2, zeroRun, List.range_succ, List.range_zero, true_and, Nat.reduceMod, encE_one]
          refine DW.call rfl rfl rfl (cy _) ?_
          refine DW.runN tok 4 ?_
          simp only [go_sem, Nat.reduceLT, Nat.reduceLeDiff, Nat.reduceEqDiff, Nat.reduceAdd, Nat.reduceMul, Nat.reduceSub, reduceIte, reduceCtorEq, evBuildSlice, zeroRun, evAppendTo, lenOfAV, srcCells, encE, jx, j0, j1, Int.toNat_natCast, evAppend, c1, c2, List.range_succ, List.range_zero, true_and, Nat.reduceMod, encE_one]
          refine DW.fin tok (by decide +kernel) rfl ?_
          refine hZ14 _ _ ?_
          refine regEnd tok ?_
          simp only [go_sem, Nat.reduceLT, Nat.reduceLeDiff, Nat.reduceEqDiff, Nat.reduceAdd, Nat.reduceMul, Nat.reduceSub, reduceIte, reduceCtorEq, encE, hwk]
          refine ⟨_, _, _, ?_, ⟨k + 1, v3 + 1, e ++ [⟨x, y⟩], rfl, rfl, rfl, ?_⟩, ?_⟩
          · omega
          · exact ⟨by simp [hek], by omega, by rw [List.all_append, heo]; simp [okE]; omega⟩
          · exact Tells.mk' [0, 1, 2] false 12 (by decide) (by simp) (by first | rfl | simp) (by first | rfl | simp [tell_u, tell_bool, tell_int, tell_str, tell_nilp, tell_nilm, tell_nilI, tell_nilF, tell_agg, tell_tup, tell_ifc, tell_ds, tell_dp, tell_op, tell_os, tell_mp, idxOf_nil, idxOf_cons, tellS_nil, tellS_cons, tellO_cells, tellO_map, tellO_iter, tellO_dead, store_get0, store_getS, tell_canonL, tell_canon, canonL, AV.canon, Bool.or_true, Bool.or_false, Bool.and_true, Bool.and_false, Bool.not_true, Bool.not_false, Option.some.injEq, canonL_N, canonL_E, canonL_encI, encI, encN, encE]) ⟨.inl rfl, .inl rfl, .inr (by first | exact tell_canon _ _ _ (.ds true (es.flatMap encE) es.length false) 12 (by simp [AV.canon, canonL, canonL_N, canonL_E, canonL_encI, encI, encN, encE]) | rfl | simp [go_sem, tell_u, tell_bool, tell_int, tell_str, tell_nilp, tell_nilm, tell_nilI, tell_nilF, tell_agg, tell_tup, tell_ifc, tell_ds, tell_dp, tell_op, tell_os, tell_mp, idxOf_nil, idxOf_cons, tellS_nil, tellS_cons, tellO_cells, tellO_map, tellO_iter, tellO_dead, store_get0, store_getS, tell_canonL, tell_canon, canonL, AV.canon, Bool.or_true, Bool.or_false, Bool.and_true, Bool.and_false, Bool.not_true, Bool.not_false, Option.some.injEq, canonL_N, canonL_E, canonL_encI, encI, encN, encE]), .inl rfl, .inl rfl, .inl rfl, .inl rfl, .inr (by first | rfl | simp [go_sem, tell_u, tell_bool, tell_int, tell_str, tell_nilp, tell_nilm, tell_nilI, tell_nilF, tell_agg, tell_tup, tell_ifc, tell_ds, tell_dp, tell_op, tell_os, tell_mp, idxOf_nil, idxOf_cons, tellS_nil, tellS_cons, tellO_cells, tellO_map, tellO_iter, tellO_dead, store_get0, store_getS, tell_canonL, tell_canon, canonL, AV.canon, Bool.or_true, Bool.or_false, Bool.and_true, Bool.and_false, Bool.not_true, Bool.not_false, Option.some.injEq]), .inr (by first | rfl | simp [go_sem, tell_u, tell_bool, tell_int, tell_str, tell_nilp, tell_nilm, tell_nilI, tell_nilF, tell_agg, tell_tup, tell_ifc, tell_ds, tell_dp, tell_op, tell_os, tell_mp, idxOf_nil, idxOf_cons, tellS_nil, tellS_cons, tellO_cells, tellO_map, tellO_iter, tellO_dead, store_get0, store_getS, tell_canonL, tell_canon, canonL, AV.canon, Bool.or_true, Bool.or_false, Bool.and_true, Bool.and_false, Bool.not_true, Bool.not_false, Option.some.injEq]), .inr (by first | exact tell_canon _ _ _ (.int .i64 al) 12 (by simp [AV.canon, canonL, canonL_N, canonL_E, canonL_encI, encI, encN, encE]) | rfl | simp [go_sem, tell_u, tell_bool, tell_int, tell_str, tell_nilp, tell_nilm, tell_nilI, tell_nilF, tell_agg, tell_tup, tell_ifc, tell_ds, tell_dp, tell_op, tell_os, tell_mp, idxOf_nil, idxOf_cons, tellS_nil, tellS_cons, tellO_cells, tellO_map, tellO_iter, tellO_dead, store_get0, store_getS, tell_canonL, tell_canon, canonL, AV.canon, Bool.or_true, Bool.or_false, Bool.and_true, Bool.and_false, Bool.not_true, Bool.not_false, Option.some.injEq, canonL_N, canonL_E, canonL_encI, encI, encN, encE]), .inl rfl, .inl rfl, .inl rfl, .inl rfl, .inr (by first | rfl | simp [go_sem, tell_u, tell_bool, tell_int, tell_str, tell_nilp, tell_nilm, tell_nilI, tell_nilF, tell_agg, tell_tup, tell_ifc, tell_ds, tell_dp, tell_op, tell_os, tell_mp, idxOf_nil, idxOf_cons, tellS_nil, tellS_cons, tellO_cells, tellO_map, tellO_iter, tellO_dead, store_get0, store_getS, tell_canonL, tell_canon, canonL, AV.canon, Bool.or_true, Bool.or_false, Bool.and_true, Bool.and_false, Bool.not_true, Bool.not_false, Option.some.injEq]), .inr (by first | exact tell_canon _ _ _ (.int .i64 k) 12 (by simp [AV.canon, canonL, canonL_N, canonL_E, canonL_encI, encI, encN, encE]) | rfl | simp [go_sem, tell_u, tell_bool, tell_int, tell_str, tell_nilp, tell_nilm, tell_nilI, tell_nilF, tell_agg, tell_tup, tell_ifc, tell_ds, tell_dp, tell_op, tell_os, tell_mp, idxOf_nil, idxOf_cons, tellS_nil, tellS_cons, tellO_cells, tellO_map, tellO_iter, tellO_dead, store_get0, store_getS, tell_canonL, tell_canon, canonL, AV.canon, Bool.or_true, Bool.or_false, Bool.and_true, Bool.and_false, Bool.not_true, Bool.not_false, Option.some.injEq, canonL_N, canonL_E, canonL_encI, encI, encN, encE]), trivial⟩
        · skip
          refine awp_exit ?_
          refine hZ12 _ _ ?_
          have hpl := hW.plan heo (by omega)
          have hwl := wantF_len hW.near 0
          have hn6 := hW.len
          have hpr := hW.prod
          subst hwl0 hal
          refine awp_seq_k fun K hK => ?_
          refine awp_region ?_
          refine opsRunN tok 2 ?_
          simp only [go_sem, Nat.reduceLT, Nat.reduceLeDiff, Nat.reduceEqDiff, Nat.reduceAdd, Nat.reduceMul, Nat.reduceSub, reduceIte, reduceCtorEq, encE]
          refine opsWp_tells [.u, .u, .u, .u, .u, .u, .u, .u, (.ds true ((wantF n 0).flatMap encI) (wantF n 0).length false), (.int .i64 (prodS n)), .u, .u, .u, .u, .u, .u, .u, .u, .u, .u, .u, .u, .u, .u, .u, .u, .u, .u, .u, .u, .u, .u, .u, .u, .u, .u, .u, .u, .u, .u, .u, .u, .u, .u, .u, .u, .u, .u, .u, .u, .u, .u, .u, .u, .u, .u, .u, .u, .u, .u, .u, .u, .u, .u, .u, .u, .u, .u, .u, .u, .u, .u, .u, .u, .u, .u, .u, .u, .u, .u, .u, .u, .u, .u, .u, .u, .u, .u, .u, .u, .u, .u, .u, .u, .u, .u, .u, .u, .u, .u, .u, .u, .u, .u, .u, (.ds true (n.flatMap encN) n.length false), (.ds true (e.flatMap encE) e.length false)] [] (Tells.mk' [] true 12 (by decide) (by simp) (by first | rfl | simp) (by first | rfl | simp [tell_u, tell_bool, tell_int, tell_str, tell_nilp, tell_nilm, tell_nilI, tell_nilF, tell_agg, tell_tup, tell_ifc, tell_ds, tell_dp, tell_op, tell_os, tell_mp, idxOf_nil, idxOf_cons, tellS_nil, tellS_cons, tellO_cells, tellO_map, tellO_iter, tellO_dead, store_get0, store_getS, tell_canonL, tell_canon, canonL, AV.canon, Bool.or_true, Bool.or_false, Bool.and_true, Bool.and_false, Bool.not_true, Bool.not_false, Option.some.injEq, canonL_N, canonL_E, canonL_encI, encI, encN, encE]) ⟨.inl rfl, .inl rfl, .inl rfl, .inl rfl, .inl rfl, .inl rfl, .inl rfl, .inl rfl, .inr (by first | rfl | (first | exact tell_enc (enc := encN) (sz := 3) (l := n) (fun _ => rfl) rfl (Store.at_hd.trans (if_pos rfl)) rfl (canonL_N _ _) _ _ | exact tell_enc (enc := encE) (sz := 2) (l := e) (fun _ => rfl) rfl (Store.at_tl.trans (Store.at_tl.trans (Store.at_hd.trans (if_pos rfl)))) rfl (canonL_E _ _) _ _ | exact tell_enc (enc := encI) (sz := 1) (l := wantF n 0) (fun _ => rfl) rfl (Store.at_tl.trans (Store.at_hd.trans (if_pos rfl))) rfl (canonL_encI _ _) _ _) | (simp [go_sem, tell_u, tell_bool, tell_int, tell_str, tell_nilp, tell_nilm, tell_nilI, tell_nilF, tell_agg, tell_tup, tell_ifc, tell_ds, tell_dp, tell_op, tell_os, tell_mp, idxOf_nil, idxOf_cons, tellS_nil, tellS_cons, tellO_cells, tellO_map, tellO_iter, tellO_dead, store_get0, store_getS, tell_canonL, tell_canon, canonL, AV.canon, Bool.or_true, Bool.or_false, Bool.and_true, Bool.and_false, Bool.not_true, Bool.not_false, Option.some.injEq, canonL_N, canonL_E, canonL_encI, encI, encN, encE]; done) | (simp [go_sem, encN, encE, encI, tell_u, tell_bool, tell_int, tell_str, tell_nilp, tell_nilm, tell_nilI, tell_nilF, tell_agg, tell_tup, tell_ifc, tell_ds, tell_dp, tell_op, tell_os, tell_mp, idxOf_nil, idxOf_cons, tellS_nil, tellS_cons, tellO_cells, tellO_map, tellO_iter, tellO_dead, store_get0, store_getS, tell_canonL, tell_canon, canonL, AV.canon, Bool.or_true, Bool.or_false, Bool.and_true, Bool.and_false, Bool.not_true, Bool.not_false, Option.some.injEq, canonL_N, canonL_E, canonL_encI, encI, encN, encE]; done)), .inr (by first | rfl | (first | exact tell_enc (enc := encN) (sz := 3) (l := n) (fun _ => rfl) rfl (Store.at_hd.trans (if_pos rfl)) rfl (canonL_N _ _) _ _ | exact tell_enc (enc := encE) (sz := 2) (l := e) (fun _ => rfl) rfl (Store.at_tl.trans (Store.at_tl.trans (Store.at_hd.trans (if_pos rfl)))) rfl (canonL_E _ _) _ _ | exact tell_enc (enc := encI) (sz := 1) (l := wantF n 0) (fun _ => rfl) rfl (Store.at_tl.trans (Store.at_hd.trans (if_pos rfl))) rfl (canonL_encI _ _) _ _) | (simp [go_sem, tell_u, tell_bool, tell_int, tell_str, tell_nilp, tell_nilm, tell_nilI, tell_nilF, tell_agg, tell_tup, tell_ifc, tell_ds, tell_dp, tell_op, tell_os, tell_mp, idxOf_nil, idxOf_cons, tellS_nil, tellS_cons, tellO_cells, tellO_map, tellO_iter, tellO_dead, store_get0, store_getS, tell_canonL, tell_canon, canonL, AV.canon, Bool.or_true, Bool.or_false, Bool.and_true, Bool.and_false, Bool.not_true, Bool.not_false, Option.some.injEq, canonL_N, canonL_E, canonL_encI, encI, encN, encE]; done) | (simp [go_sem, encN, encE, encI, tell_u, tell_bool, tell_int, tell_str, tell_nilp, tell_nilm, tell_nilI, tell_nilF, tell_agg, tell_tup, tell_ifc, tell_ds, tell_dp, tell_op, tell_os, tell_mp, idxOf_nil, idxOf_cons, tellS_nil, tellS_cons, tellO_cells, tellO_map, tellO_iter, tellO_dead, store_get0, store_getS, tell_canonL, tell_canon, canonL, AV.canon, Bool.or_true, Bool.or_false, Bool.and_true, Bool.and_false, Bool.not_true, Bool.not_false, Option.some.injEq, canonL_N, canonL_E, canonL_encI, encI, encN, encE]; done)), .inl rfl, .inl rfl, .inl rfl, .inl rfl, .inl rfl, .inl rfl, .inl rfl, .inl rfl, .inl rfl, .inl rfl, .inl rfl, .inl rfl, .inl rfl, .inl rfl, .inl rfl, .inl rfl, .inl rfl, .inl rfl, .inl rfl, .inl rfl, .inl rfl, .inl rfl, .inl rfl, .inl rfl, .inl rfl, .inl rfl, .inl rfl, .inl rfl, .inl rfl, .inl rfl, .inl rfl, .inl rfl, .inl rfl, .inl rfl, .inl rfl, .inl rfl, .inl rfl, .inl rfl, .inl rfl, .inl rfl, .inl rfl, .inl rfl, .inl rfl, .inl rfl, .inl rfl, .inl rfl, .inl rfl, .inl rfl, .inl rfl, .inl rfl, .inl rfl, .inl rfl, .inl rfl, .inl rfl, .inl rfl, .inl rfl, .inl rfl, .inl rfl, .inl rfl, .inl rfl, .inl rfl, .inl rfl, .inl rfl, .inl rfl, .inl rfl, .inl rfl, .inl rfl, .inl rfl, .inl rfl, .inl rfl, .inl rfl, .inl rfl, .inl rfl, .inl rfl, .inl rfl, .inl rfl, .inl rfl, .inl rfl, .inl rfl, .inl rfl, .inl rfl, .inl rfl, .inl rfl, .inl rfl, .inl rfl, .inl rfl, .inl rfl, .inl rfl, .inl rfl, .inl rfl, .inl rfl, .inl rfl, .inl rfl, .inl rfl, .inl rfl, .inr (by first | rfl | (first | exact tell_enc (enc := encN) (sz := 3) (l := n) (fun _ => rfl) rfl (Store.at_hd.trans (if_pos rfl)) rfl (canonL_N _ _) _ _ | exact tell_enc (enc := encE) (sz := 2) (l := e) (fun _ => rfl) rfl (Store.at_tl.trans (Store.at_tl.trans (Store.at_hd.trans (if_pos rfl)))) rfl (canonL_E _ _) _ _ | exact tell_enc (enc := encI) (sz := 1) (l := wantF n 0) (fun _ => rfl) rfl (Store.at_tl.trans (Store.at_hd.trans (if_pos rfl))) rfl (canonL_encI _ _) _ _) | (simp [go_sem, tell_u, tell_bool, tell_int, tell_str, tell_nilp, tell_nilm, tell_nilI, tell_nilF, tell_agg, tell_tup, tell_ifc, tell_ds, tell_dp, tell_op, tell_os, tell_mp, idxOf_nil, idxOf_cons, tellS_nil, tellS_cons, tellO_cells, tellO_map, tellO_iter, tellO_dead, store_get0, store_getS, tell_canonL, tell_canon, canonL, AV.canon, Bool.or_true, Bool.or_false, Bool.and_true, Bool.and_false, Bool.not_true, Bool.not_false, Option.some.injEq, canonL_N, canonL_E, canonL_encI, encI, encN, encE]; done) | (simp [go_sem, encN, encE, encI, tell_u, tell_bool, tell_int, tell_str, tell_nilp, tell_nilm, tell_nilI, tell_nilF, tell_agg, tell_tup, tell_ifc, tell_ds, tell_dp, tell_op, tell_os, tell_mp, idxOf_nil, idxOf_cons, tellS_nil, tellS_cons, tellO_cells, tellO_map, tellO_iter, tellO_dead, store_get0, store_getS, tell_canonL, tell_canon, canonL, AV.canon, Bool.or_true, Bool.or_false, Bool.and_true, Bool.and_false, Bool.not_true, Bool.not_false, Option.some.injEq, canonL_N, canonL_E, canonL_encI, encI, encN, encE]; done)), .inr (by first | rfl | (first | exact tell_enc (enc := encN) (sz := 3) (l := n) (fun _ => rfl) rfl (Store.at_hd.trans (if_pos rfl)) rfl (canonL_N _ _) _ _ | exact tell_enc (enc := encE) (sz := 2) (l := e) (fun _ => rfl) rfl (Store.at_tl.trans (Store.at_tl.trans (Store.at_hd.trans (if_pos rfl)))) rfl (canonL_E _ _) _ _ | exact tell_enc (enc := encI) (sz := 1) (l := wantF n 0) (fun _ => rfl) rfl (Store.at_tl.trans (Store.at_hd.trans (if_pos rfl))) rfl (canonL_encI _ _) _ _) | (simp [go_sem, tell_u, tell_bool, tell_int, tell_str, tell_nilp, tell_nilm, tell_nilI, tell_nilF, tell_agg, tell_tup, tell_ifc, tell_ds, tell_dp, tell_op, tell_os, tell_mp, idxOf_nil, idxOf_cons, tellS_nil, tellS_cons, tellO_cells, tellO_map, tellO_iter, tellO_dead, store_get0, store_getS, tell_canonL, tell_canon, canonL, AV.canon, Bool.or_true, Bool.or_false, Bool.and_true, Bool.and_false, Bool.not_true, Bool.not_false, Option.some.injEq, canonL_N, canonL_E, canonL_encI, encI, encN, encE]; done) | (simp [go_sem, encN, encE, encI, tell_u, tell_bool, tell_int, tell_str, tell_nilp, tell_nilm, tell_nilI, tell_nilF, tell_agg, tell_tup, tell_ifc, tell_ds, tell_dp, tell_op, tell_os, tell_mp, idxOf_nil, idxOf_cons, tellS_nil, tellS_cons, tellO_cells, tellO_map, tellO_iter, tellO_dead, store_get0, store_getS, tell_canonL, tell_canon, canonL, AV.canon, Bool.or_true, Bool.or_false, Bool.and_true, Bool.and_false, Bool.not_true, Bool.not_false, Option.some.injEq, canonL_N, canonL_E, canonL_encI, encI, encN, encE]; done)), trivial⟩) ?_
          refine opsWp_callD rfl rfl rfl (plan_pc_ev n e (by omega) (by omega) _) ?_
          rw [hpl]; rintro _ _ ⟨rfl, rfl⟩
          refine opsRunN tok 5 ?_
          simp only [go_sem, Nat.reduceLT, Nat.reduceLeDiff, Nat.reduceEqDiff, Nat.reduceAdd, Nat.reduceMul, Nat.reduceSub, reduceIte, reduceCtorEq, encE]
          refine opsWp_nil ?_
          refine hK _ _ (awp_keepM [false, false, false, false, false, false, false, false, true, true, false, false, false, false, false, false, true, true] ?_)
          clear hK K
          try simp only [go_sem, Nat.reduceLT, Nat.reduceLeDiff, Nat.reduceEqDiff, Nat.reduceAdd, Nat.reduceMul, Nat.reduceSub, reduceIte, reduceCtorEq]
          refine awp_seq_k fun K hK => ?_
          refine awp_region ?_
          refine opsRunN tok 3 ?_
          simp only [go_sem, Nat.reduceLT, Nat.reduceLeDiff, Nat.reduceEqDiff, Nat.reduceAdd, Nat.reduceMul, Nat.reduceSub, reduceIte, reduceCtorEq, encE]
          refine ops_if 112 rfl (fun hg112 => ?_) (fun hg112 => ?_)
          · skip
            refine opsRunN tok 2 ?_
            simp only [go_sem, Nat.reduceLT, Nat.reduceLeDiff, Nat.reduceEqDiff, Nat.reduceAdd, Nat.reduceMul, Nat.reduceSub, reduceIte, reduceCtorEq, encE]
            refine opsWp_callD rfl rfl rfl (same_pc_ev (wantF n 0) (wantF n 0) (by omega) (by omega) _) ?_
            rintro _ _ ⟨rfl, rfl⟩
            refine opsRunN tok 2 ?_
            simp only [go_sem, Nat.reduceLT, Nat.reduceLeDiff, Nat.reduceEqDiff, Nat.reduceAdd, Nat.reduceMul, Nat.reduceSub, reduceIte, reduceCtorEq, encE]
            refine ops_if 117 rfl (fun hg117 => ?_) (fun hg117 => ?_)
            · skip
              refine opsRunN tok 4 ?_
              simp only [go_sem, Nat.reduceLT, Nat.reduceLeDiff, Nat.reduceEqDiff, Nat.reduceAdd, Nat.reduceMul, Nat.reduceSub, reduceIte, reduceCtorEq, encE]
              refine ops_if 121 rfl (fun hg121 => ?_) (fun hg121 => ?_)
              · skip
                refine opsWp_callD rfl rfl rfl (awake_pc_ev _) ?_
                rintro _ _ ⟨rfl, rfl⟩
                refine opsRunN tok 2 ?_
                simp only [go_sem, Nat.reduceLT, Nat.reduceLeDiff, Nat.reduceEqDiff, Nat.reduceAdd, Nat.reduceMul, Nat.reduceSub, reduceIte, reduceCtorEq, encE]
                refine opsWp_nil ?_
                refine hK _ _ (awp_keepM [false, false, false, false, false, false, true] ?_)
                clear hK K
                try simp only [go_sem, Nat.reduceLT, Nat.reduceLeDiff, Nat.reduceEqDiff, Nat.reduceAdd, Nat.reduceMul, Nat.reduceSub, reduceIte, reduceCtorEq]
                refine awp_ret ?_
                simp only [retQ, resAll, resOne, resAV, exists_eq_left', go_sem, Nat.reduceLT, Nat.reduceLeDiff, Nat.reduceEqDiff, Nat.reduceAdd, Nat.reduceMul, Nat.reduceSub, reduceIte, reduceCtorEq, encE]
                first | rfl | (exfalso; simp_all; done) | (exfalso; omega)
              · skip
                refine opsRunN tok 3 ?_
                simp only [go_sem, Nat.reduceLT, Nat.reduceLeDiff, Nat.reduceEqDiff, Nat.reduceAdd, Nat.reduceMul, Nat.reduceSub, reduceIte, reduceCtorEq, encE]
                refine opsWp_nil ?_
                refine hK _ _ (awp_keepM [false, false, false, false, false, false, true] ?_)
                clear hK K
                try simp only [go_sem, Nat.reduceLT, Nat.reduceLeDiff, Nat.reduceEqDiff, Nat.reduceAdd, Nat.reduceMul, Nat.reduceSub, reduceIte, reduceCtorEq]
                refine awp_ret ?_
                simp only [retQ, resAll, resOne, resAV, exists_eq_left', go_sem, Nat.reduceLT, Nat.reduceLeDiff, Nat.reduceEqDiff, Nat.reduceAdd, Nat.reduceMul, Nat.reduceSub, reduceIte, reduceCtorEq, encE]
                first | rfl | (exfalso; simp_all; done) | (exfalso; omega)
            · skip
              refine opsRunN tok 7 ?_
              simp only [go_sem, Nat.reduceLT, Nat.reduceLeDiff, Nat.reduceEqDiff, Nat.reduceAdd, Nat.reduceMul, Nat.reduceSub, reduceIte, reduceCtorEq, encE]
              refine opsWp_nil ?_
              refine hK _ _ (awp_keepM [false, false, false, false, false, false, true] ?_)
              clear hK K
              try simp only [go_sem, Nat.reduceLT, Nat.reduceLeDiff, Nat.reduceEqDiff, Nat.reduceAdd, Nat.reduceMul, Nat.reduceSub, reduceIte, reduceCtorEq]
              refine awp_ret ?_
              simp only [retQ, resAll, resOne, resAV, exists_eq_left', go_sem, Nat.reduceLT, Nat.reduceLeDiff, Nat.reduceEqDiff, Nat.reduceAdd, Nat.reduceMul, Nat.reduceSub, reduceIte, reduceCtorEq, encE]
              first | rfl | (exfalso; simp_all; done) | (exfalso; omega)
          · skip
            refine opsRunN tok 8 ?_
            simp only [go_sem, Nat.reduceLT, Nat.reduceLeDiff, Nat.reduceEqDiff, Nat.reduceAdd, Nat.reduceMul, Nat.reduceSub, reduceIte, reduceCtorEq, encE]
            refine opsRunN tok 4 ?_
            simp only [go_sem, Nat.reduceLT, Nat.reduceLeDiff, Nat.reduceEqDiff, Nat.reduceAdd, Nat.reduceMul, Nat.reduceSub, reduceIte, reduceCtorEq, encE]
            refine opsWp_nil ?_
            refine hK _ _ (awp_keepM [false, false, false, false, false, false, true] ?_)
            clear hK K
            try simp only [go_sem, Nat.reduceLT, Nat.reduceLeDiff, Nat.reduceEqDiff, Nat.reduceAdd, Nat.reduceMul, Nat.reduceSub, reduceIte, reduceCtorEq]
            refine awp_ret ?_
            simp only [retQ, resAll, resOne, resAV, exists_eq_left', go_sem, Nat.reduceLT, Nat.reduceLeDiff, Nat.reduceEqDiff, Nat.reduceAdd, Nat.reduceMul, Nat.reduceSub, reduceIte, reduceCtorEq, encE]
            first | rfl | (exfalso; simp_all; done) | (exfalso; omega)
      · skip
        refine opsRunN tok 4 ?_
        simp only [go_sem, Nat.reduceLT, Nat.reduceLeDiff, Nat.reduceEqDiff, Nat.reduceAdd, Nat.reduceMul, Nat.reduceSub, reduceIte, reduceCtorEq, encE]
        refine opsWp_nil ?_
        refine hK _ _ (awp_keepM [false, false, true, false, false, false, false, true, true, true, false, false, false, false, true, true, false, false, false, false, false, false, false, false, false, false, false, false, false, false, false, false, false, false, false, false, false, false, false, false, false, false, false, false, false, false, false, false, false, false, false, false, false, false, false, false, false, false, false, false, false, false, false, false, false, false, false, false, false, false, false, false, false, false, false, false, false, false, false, false, false, true] ?_)
        clear hK K
        try simp only [go_sem, Nat.reduceLT, Nat.reduceLeDiff, Nat.reduceEqDiff, Nat.reduceAdd, Nat.reduceMul, Nat.reduceSub, reduceIte, reduceCtorEq]
        refine awp_cond_f rfl ?_
        refine awp_exit ?_
        refine hZ12 _ _ ?_
        have hpl := hW.plan heo (by omega)
        have hwl := wantF_len hW.near 0
        have hn6 := hW.len
        have hpr := hW.prod
        subst hwl0 hal
        refine awp_seq_k fun K hK => ?_
        refine awp_region ?_
        refine opsRunN tok 2 ?_
        simp only [go_sem, Nat.reduceLT, Nat.reduceLeDiff, Nat.reduceEqDiff, Nat.reduceAdd, Nat.reduceMul, Nat.reduceSub, reduceIte, reduceCtorEq, encE]
        refine opsWp_tells [.u, .u, .u, .u, .u, .u, .u, .u, (.ds true ((wantF n 0).flatMap encI) (wantF n 0).length false), (.int .i64 (prodS n)), .u, .u, .u, .u, .u, .u, .u, .u, .u, .u, .u, .u, .u, .u, .u, .u, .u, .u, .u, .u, .u, .u, .u, .u, .u, .u, .u, .u, .u, .u, .u, .u, .u, .u, .u, .u, .u, .u, .u, .u, .u, .u, .u, .u, .u, .u, .u, .u, .u, .u, .u, .u, .u, .u, .u, .u, .u, .u, .u, .u, .u, .u, .u, .u, .u, .u, .u, .u, .u, .u, .u, .u, .u, .u, .u, .u, .u, .u, .u, .u, .u, .u, .u, .u, .u, .u, .u, .u, .u, .u, .u, .u, .u, .u, .u, (.ds true (n.flatMap encN) n.length false), (.ds true (e.flatMap encE) e.length false)] [] (Tells.mk' [] true 12 (by decide) (by simp) (by first | rfl | simp) (by first | rfl | simp [tell_u, tell_bool, tell_int, tell_str, tell_nilp, tell_nilm, tell_nilI, tell_nilF, tell_agg, tell_tup, tell_ifc, tell_ds, tell_dp, tell_op, tell_os, tell_mp, idxOf_nil, idxOf_cons, tellS_nil, tellS_cons, tellO_cells, tellO_map, tellO_iter, tellO_dead, store_get0, store_getS, tell_canonL, tell_canon, canonL, AV.canon, Bool.or_true, Bool.or_false, Bool.and_true, Bool.and_false, Bool.not_true, Bool.not_false, Option.some.injEq, canonL_N, canonL_E, canonL_encI, encI, encN, encE]) ⟨.inl rfl, .inl rfl, .inl rfl, .inl rfl, .inl rfl, .inl rfl, .inl rfl, .inl rfl, .inr (by first | rfl | (first | exact tell_enc (enc := encN) (sz := 3) (l := n) (fun _ => rfl) rfl (Store.at_hd.trans (if_pos rfl)) rfl (canonL_N _ _) _ _ | exact tell_enc (enc := encE) (sz := 2) (l := e) (fun _ => rfl) rfl (Store.at_tl.trans (Store.at_tl.trans (Store.at_hd.trans (if_pos rfl)))) rfl (canonL_E _ _) _ _ | exact tell_enc (enc := encI) (sz := 1) (l := wantF n 0) (fun _ => rfl) rfl (Store.at_tl.trans (Store.at_hd.trans (if_pos rfl))) rfl (canonL_encI _ _) _ _) | (simp [go_sem, tell_u, tell_bool, tell_int, tell_str, tell_nilp, tell_nilm, tell_nilI, tell_nilF, tell_agg, tell_tup, tell_ifc, tell_ds, tell_dp, tell_op, tell_os, tell_mp, idxOf_nil, idxOf_cons, tellS_nil, tellS_cons, tellO_cells, tellO_map, tellO_iter, tellO_dead, store_get0, store_getS, tell_canonL, tell_canon, canonL, AV.canon, Bool.or_true, Bool.or_false, Bool.and_true, Bool.and_false, Bool.not_true, Bool.not_false, Option.some.injEq, canonL_N, canonL_E, canonL_encI, encI, encN, encE]; done) | (simp [go_sem, encN, encE, encI, tell_u, tell_bool, tell_int, tell_str, tell_nilp, tell_nilm, tell_nilI, tell_nilF, tell_agg, tell_tup, tell_ifc, tell_ds, tell_dp, tell_op, tell_os, tell_mp, idxOf_nil, idxOf_cons, tellS_nil, tellS_cons, tellO_cells, tellO_map, tellO_iter, tellO_dead, store_get0, store_getS, tell_canonL, tell_canon, canonL, AV.canon, Bool.or_true, Bool.or_false, Bool.and_true, Bool.and_false, Bool.not_true, Bool.not_false, Option.some.injEq, canonL_N, canonL_E, canonL_encI, encI, encN, encE]; done)), .inr (by first | rfl | (first | exact tell_enc (enc := encN) (sz := 3) (l := n) (fun _ => rfl) rfl (Store.at_hd.trans (if_pos rfl)) rfl (canonL_N _ _) _ _ | exact tell_enc (enc := encE) (sz := 2) (l := e) (fun _ => rfl) rfl (Store.at_tl.trans (Store.at_tl.trans (Store.at_hd.trans (if_pos rfl)))) rfl (canonL_E _ _) _ _ | exact tell_enc (enc := encI) (sz := 1) (l := wantF n 0) (fun _ => rfl) rfl (Store.at_tl.trans (Store.at_hd.trans (if_pos rfl))) rfl (canonL_encI _ _) _ _) | (simp [go_sem, tell_u, tell_bool, tell_int, tell_str, tell_nilp, tell_nilm, tell_nilI, tell_nilF, tell_agg, tell_tup, tell_ifc, tell_ds, tell_dp, tell_op, tell_os, tell_mp, idxOf_nil, idxOf_cons, tellS_nil, tellS_cons, tellO_cells, tellO_map, tellO_iter, tellO_dead, store_get0, store_getS, tell_canonL, tell_canon, canonL, AV.canon, Bool.or_true, Bool.or_false, Bool.and_true, Bool.and_false, Bool.not_true, Bool.not_false, Option.some.injEq, canonL_N, canonL_E, canonL_encI, encI, encN, encE]; done) | (simp [go_sem, encN, encE, encI, tell_u, tell_bool, tell_int, tell_str, tell_nilp, tell_nilm, tell_nilI, tell_nilF, tell_agg, tell_tup, tell_ifc, tell_ds, tell_dp, tell_op, tell_os, tell_mp, idxOf_nil, idxOf_cons, tellS_nil, tellS_cons, tellO_cells, tellO_map, tellO_iter, tellO_dead, store_get0, store_getS, tell_canonL, tell_canon, canonL, AV.canon, Bool.or_true, Bool.or_false, Bool.and_true, Bool.and_false, Bool.not_true, Bool.not_false, Option.some.injEq, canonL_N, canonL_E, canonL_encI, encI, encN, encE]; done)), .inl rfl, .inl rfl, .inl rfl, .inl rfl, .inl rfl, .inl rfl, .inl rfl, .inl rfl, .inl rfl, .inl rfl, .inl rfl, .inl rfl, .inl rfl, .inl rfl, .inl rfl, .inl rfl, .inl rfl, .inl rfl, .inl rfl, .inl rfl, .inl rfl, .inl rfl, .inl rfl, .inl rfl, .inl rfl, .inl rfl, .inl rfl, .inl rfl, .inl rfl, .inl rfl, .inl rfl, .inl rfl, .inl rfl, .inl rfl, .inl rfl, .inl rfl, .inl rfl, .inl rfl, .inl rfl, .inl rfl, .inl rfl, .inl rfl, .inl rfl, .inl rfl, .inl rfl, .inl rfl, .inl rfl, .inl rfl, .inl rfl, .inl rfl, .inl rfl, .inl rfl, .inl rfl, .inl rfl, .inl rfl, .inl rfl, .inl rfl, .inl rfl, .inl rfl, .inl rfl, .inl rfl, .inl rfl, .inl rfl, .inl rfl, .inl rfl, .inl rfl, .inl rfl, .inl rfl, .inl rfl, .inl rfl, .inl rfl, .inl rfl, .inl rfl, .inl rfl, .inl rfl, .inl rfl, .inl rfl, .inl rfl, .inl rfl, .inl rfl, .inl rfl, .inl rfl, .inl rfl, .inl rfl, .inl rfl, .inl rfl, .inl rfl, .inl rfl, .inl rfl, .inl rfl, .inl rfl, .inl rfl, .inl rfl, .inl rfl, .inl rfl, .inr (by first | rfl | (first | exact tell_enc (enc := encN) (sz := 3) (l := n) (fun _ => rfl) rfl (Store.at_hd.trans (if_pos rfl)) rfl (canonL_N _ _) _ _ | exact tell_enc (enc := encE) (sz := 2) (l := e) (fun _ => rfl) rfl (Store.at_tl.trans (Store.at_tl.trans (Store.at_hd.trans (if_pos rfl)))) rfl (canonL_E _ _) _ _ | exact tell_enc (enc := encI) (sz := 1) (l := wantF n 0) (fun _ => rfl) rfl (Store.at_tl.trans (Store.at_hd.trans (if_pos rfl))) rfl (canonL_encI _ _) _ _) | (simp [go_sem, tell_u, tell_bool, tell_int, tell_str, tell_nilp, tell_nilm, tell_nilI, tell_nilF, tell_agg, tell_tup, tell_ifc, tell_ds, tell_dp, tell_op, tell_os, tell_mp, idxOf_nil, idxOf_cons, tellS_nil, tellS_cons, tellO_cells, tellO_map, tellO_iter, tellO_dead, store_get0, store_getS, tell_canonL, tell_canon, canonL, AV.canon, Bool.or_true, Bool.or_false, Bool.and_true, Bool.and_false, Bool.not_true, Bool.not_false, Option.some.injEq, canonL_N, canonL_E, canonL_encI, encI, encN, encE]; done) | (simp [go_sem, encN, encE, encI, tell_u, tell_bool, tell_int, tell_str, tell_nilp, tell_nilm, tell_nilI, tell_nilF, tell_agg, tell_tup, tell_ifc, tell_ds, tell_dp, tell_op, tell_os, tell_mp, idxOf_nil, idxOf_cons, tellS_nil, tellS_cons, tellO_cells, tellO_map, tellO_iter, tellO_dead, store_get0, store_getS, tell_canonL, tell_canon, canonL, AV.canon, Bool.or_true, Bool.or_false, Bool.and_true, Bool.and_false, Bool.not_true, Bool.not_false, Option.some.injEq, canonL_N, canonL_E, canonL_encI, encI, encN, encE]; done)), .inr (by first | rfl | (first | exact tell_enc (enc := encN) (sz := 3) (l := n) (fun _ => rfl) rfl (Store.at_hd.trans (if_pos rfl)) rfl (canonL_N _ _) _ _ | exact tell_enc (enc := encE) (sz := 2) (l := e) (fun _ => rfl) rfl (Store.at_tl.trans (Store.at_tl.trans (Store.at_hd.trans (if_pos rfl)))) rfl (canonL_E _ _) _ _ | exact tell_enc (enc := encI) (sz := 1) (l := wantF n 0) (fun _ => rfl) rfl (Store.at_tl.trans (Store.at_hd.trans (if_pos rfl))) rfl (canonL_encI _ _) _ _) | (simp [go_sem, tell_u, tell_bool, tell_int, tell_str, tell_nilp, tell_nilm, tell_nilI, tell_nilF, tell_agg, tell_tup, tell_ifc, tell_ds, tell_dp, tell_op, tell_os, tell_mp, idxOf_nil, idxOf_cons, tellS_nil, tellS_cons, tellO_cells, tellO_map, tellO_iter, tellO_dead, store_get0, store_getS, tell_canonL, tell_canon, canonL, AV.canon, Bool.or_true, Bool.or_false, Bool.and_true, Bool.and_false, Bool.not_true, Bool.not_false, Option.some.injEq, canonL_N, canonL_E, canonL_encI, encI, encN, encE]; done) | (simp [go_sem, encN, encE, encI, tell_u, tell_bool, tell_int, tell_str, tell_nilp, tell_nilm, tell_nilI, tell_nilF, tell_agg, tell_tup, tell_ifc, tell_ds, tell_dp, tell_op, tell_os, tell_mp, idxOf_nil, idxOf_cons, tellS_nil, tellS_cons, tellO_cells, tellO_map, tellO_iter, tellO_dead, store_get0, store_getS, tell_canonL, tell_canon, canonL, AV.canon, Bool.or_true, Bool.or_false, Bool.and_true, Bool.and_false, Bool.not_true, Bool.not_false, Option.some.injEq, canonL_N, canonL_E, canonL_encI, encI, encN, encE]; done)), trivial⟩) ?_
        refine opsWp_callD rfl rfl rfl (plan_pc_ev n e (by omega) (by omega) _) ?_
        rw [hpl]; rintro _ _ ⟨rfl, rfl⟩
        refine opsRunN tok 5 ?_
        simp only [go_sem, Nat.reduceLT, Nat.reduceLeDiff, Nat.reduceEqDiff, Nat.reduceAdd, Nat.reduceMul, Nat.reduceSub, reduceIte, reduceCtorEq, encE]
        refine opsWp_nil ?_
        refine hK _ _ (awp_keepM [false, false, false, false, false, false, false, false, true, true, false, false, false, false, false, false, true, true] ?_)
        clear hK K
        try simp only [go_sem, Nat.reduceLT, Nat.reduceLeDiff, Nat.reduceEqDiff, Nat.reduceAdd, Nat.reduceMul, Nat.reduceSub, reduceIte, reduceCtorEq]
        refine awp_seq_k fun K hK => ?_
        refine awp_region ?_
        refine opsRunN tok 3 ?_
        simp only [go_sem, Nat.reduceLT, Nat.reduceLeDiff, Nat.reduceEqDiff, Nat.reduceAdd, Nat.reduceMul, Nat.reduceSub, reduceIte, reduceCtorEq, encE]
        refine ops_if 112 rfl (fun hg112 => ?_) (fun hg112 => ?_)
        · skip
          refine opsRunN tok 2 ?_
          simp only [go_sem, Nat.reduceLT, Nat.reduceLeDiff, Nat.reduceEqDiff, Nat.reduceAdd, Nat.reduceMul, Nat.reduceSub, reduceIte, reduceCtorEq, encE]
          refine opsWp_callD rfl rfl rfl (same_pc_ev (wantF n 0) (wantF n 0) (by omega) (by omega) _) ?_
          rintro _ _ ⟨rfl, rfl⟩
          refine opsRunN tok 2 ?_
          simp only [go_sem, Nat.reduceLT, Nat.reduceLeDiff, Nat.reduceEqDiff, Nat.reduceAdd, Nat.reduceMul, Nat.reduceSub, reduceIte, reduceCtorEq, encE]
          refine ops_if 117 rfl (fun hg117 => ?_) (fun hg117 => ?_)
          · skip
            refine opsRunN tok 4 ?_
            simp only [go_sem, Nat.reduceLT, Nat.reduceLeDiff, Nat.reduceEqDiff, Nat.reduceAdd, Nat.reduceMul, Nat.reduceSub, reduceIte, reduceCtorEq, encE]
            refine ops_if 121 rfl (fun hg121 => ?_) (fun hg121 => ?_)
            · skip
              refine opsWp_callD rfl rfl rfl (awake_pc_ev _) ?_
              rintro _ _ ⟨rfl, rfl⟩
              refine opsRunN tok 2 ?_
              simp only [go_sem, Nat.reduceLT, Nat.reduceLeDiff, Nat.reduceEqDiff, Nat.reduceAdd, Nat.reduceMul, Nat.reduceSub, reduceIte, reduceCtorEq, encE]
              refine opsWp_nil ?_
              refine hK _ _ (awp_keepM [false, false, false, false, false, false, true] ?_)
              clear hK K
              try simp only [go_sem, Nat.reduceLT, Nat.reduceLeDiff, Nat.reduceEqDiff, Nat.reduceAdd, Nat.reduceMul, Nat.reduceSub, reduceIte, reduceCtorEq]
              refine awp_ret ?_
              simp only [retQ, resAll, resOne, resAV, exists_eq_left', go_sem, Nat.reduceLT, Nat.reduceLeDiff, Nat.reduceEqDiff, Nat.reduceAdd, Nat.reduceMul, Nat.reduceSub, reduceIte, reduceCtorEq, encE]
              first | rfl | (exfalso; simp_all; done) | (exfalso; omega)
            · skip
              refine opsRunN tok 3 ?_
              simp only [go_sem, Nat.reduceLT, Nat.reduceLeDiff, Nat.reduceEqDiff, Nat.reduceAdd, Nat.reduceMul, Nat.reduceSub, reduceIte, reduceCtorEq, encE]
              refine opsWp_nil ?_
              refine hK _ _ (awp_keepM [false, false, false, false, false, false, true] ?_)
              clear hK K
              try simp only [go_sem, Nat.reduceLT, Nat.reduceLeDiff, Nat.reduceEqDiff, Nat.reduceAdd, Nat.reduceMul, Nat.reduceSub, reduceIte, reduceCtorEq]
              refine awp_ret ?_
              simp only [retQ, resAll, resOne, resAV, exists_eq_left', go_sem, Nat.reduceLT, Nat.reduceLeDiff, Nat.reduceEqDiff, Nat.reduceAdd, Nat.reduceMul, Nat.reduceSub, reduceIte, reduceCtorEq, encE]
              first | rfl | (exfalso; simp_all; done) | (exfalso; omega)
          · skip
            refine opsRunN tok 7 ?_
            simp only [go_sem, Nat.reduceLT, Nat.reduceLeDiff, Nat.reduceEqDiff, Nat.reduceAdd, Nat.reduceMul, Nat.reduceSub, reduceIte, reduceCtorEq, encE]
            refine opsWp_nil ?_
            refine hK _ _ (awp_keepM [false, false, false, false, false, false, true] ?_)
            clear hK K
            try simp only [go_sem, Nat.reduceLT, Nat.reduceLeDiff, Nat.reduceEqDiff, Nat.reduceAdd, Nat.reduceMul, Nat.reduceSub, reduceIte, reduceCtorEq]
            refine awp_ret ?_
            simp only [retQ, resAll, resOne, resAV, exists_eq_left', go_sem, Nat.reduceLT, Nat.reduceLeDiff, Nat.reduceEqDiff, Nat.reduceAdd, Nat.reduceMul, Nat.reduceSub, reduceIte, reduceCtorEq, encE]
            first | rfl | (exfalso; simp_all; done) | (exfalso; omega)
        · skip
          refine opsRunN tok 8 ?_
          simp only [go_sem, Nat.reduceLT, Nat.reduceLeDiff, Nat.reduceEqDiff, Nat.reduceAdd, Nat.reduceMul, Nat.reduceSub, reduceIte, reduceCtorEq, encE]
          refine opsRunN tok 4 ?_
          simp only [go_sem, Nat.reduceLT, Nat.reduceLeDiff, Nat.reduceEqDiff, Nat.reduceAdd, Nat.reduceMul, Nat.reduceSub, reduceIte, reduceCtorEq, encE]
          refine opsWp_nil ?_
          refine hK _ _ (awp_keepM [false, false, false, false, false, false, true] ?_)
          clear hK K
          try simp only [go_sem, Nat.reduceLT, Nat.reduceLeDiff, Nat.reduceEqDiff, Nat.reduceAdd, Nat.reduceMul, Nat.reduceSub, reduceIte, reduceCtorEq]
          refine awp_ret ?_
          simp only [retQ, resAll, resOne, resAV, exists_eq_left', go_sem, Nat.reduceLT, Nat.reduceLeDiff, Nat.reduceEqDiff, Nat.reduceAdd, Nat.reduceMul, Nat.reduceSub, reduceIte, reduceCtorEq, encE]
          first | rfl | (exfalso; simp_all; done) | (exfalso; omega)
    · skip
      refine opsRunN tok 8 ?_
      simp only [go_sem, Nat.reduceLT, Nat.reduceLeDiff, Nat.reduceEqDiff, Nat.reduceAdd, Nat.reduceMul, Nat.reduceSub, reduceIte, reduceCtorEq, encE]
      refine opsWp_nil ?_
      refine hK _ _ (awp_keepM [false, false, true, false, false, false, false, true, true, true, false, false, false, false, true, true, false, false, false, false, false, false, false, false, false, false, false, false, false, false, false, false, false, false, false, false, false, false, false, false, false, false, false, false, false, false, false, false, false, false, false, false, false, false, false, false, false, false, false, false, false, false, false, false, false, false, false, false, false, false, false, false, false, false, false, false, false, false, false, false, false, true] ?_)
      clear hK K
      try simp only [go_sem, Nat.reduceLT, Nat.reduceLeDiff, Nat.reduceEqDiff, Nat.reduceAdd, Nat.reduceMul, Nat.reduceSub, reduceIte, reduceCtorEq]
      refine awp_cond_f rfl ?_
      refine awp_exit ?_
      refine hZ12 _ _ ?_
      have hpl := hW.plan heo (by omega)
      have hwl := wantF_len hW.near 0
      have hn6 := hW.len
      have hpr := hW.prod
      subst hwl0 hal
      refine awp_seq_k fun K hK => ?_
      refine awp_region ?_
      refine opsRunN tok 2 ?_
      simp only [go_sem, Nat.reduceLT, Nat.reduceLeDiff, Nat.reduceEqDiff, Nat.reduceAdd, Nat.reduceMul, Nat.reduceSub, reduceIte, reduceCtorEq, encE]
      refine opsWp_tells [.u, .u, .u, .u, .u, .u, .u, .u, (.ds true ((wantF n 0).flatMap encI) (wantF n 0).length false), (.int .i64 (prodS n)), .u, .u, .u, .u, .u, .u, .u, .u, .u, .u, .u, .u, .u, .u, .u, .u, .u, .u, .u, .u, .u, .u, .u, .u, .u, .u, .u, .u, .u, .u, .u, .u, .u, .u, .u, .u, .u, .u, .u, .u, .u, .u, .u, .u, .u, .u, .u, .u, .u, .u, .u, .u, .u, .u, .u, .u, .u, .u, .u, .u, .u, .u, .u, .u, .u, .u, .u, .u, .u, .u, .u, .u, .u, .u, .u, .u, .u, .u, .u, .u, .u, .u, .u, .u, .u, .u, .u, .u, .u, .u, .u, .u, .u, .u, .u, (.ds true (n.flatMap encN) n.length false), (.ds true (e.flatMap encE) e.length false)] [] (Tells.mk' [] true 12 (by decide) (by simp) (by first | rfl | simp) (by first | rfl | simp [tell_u, tell_bool, tell_int, tell_str, tell_nilp, tell_nilm, tell_nilI, tell_nilF, tell_agg, tell_tup, tell_ifc, tell_ds, tell_dp, tell_op, tell_os, tell_mp, idxOf_nil, idxOf_cons, tellS_nil, tellS_cons, tellO_cells, tellO_map, tellO_iter, tellO_dead, store_get0, store_getS, tell_canonL, tell_canon, canonL, AV.canon, Bool.or_true, Bool.or_false, Bool.and_true, Bool.and_false, Bool.not_true, Bool.not_false, Option.some.injEq, canonL_N, canonL_E, canonL_encI, encI, encN, encE]) ⟨.inl rfl, .inl rfl, .inl rfl, .inl rfl, .inl rfl, .inl rfl, .inl rfl, .inl rfl, .inr (by first | rfl | (first | exact tell_enc (enc := encN) (sz := 3) (l := n) (fun _ => rfl) rfl (Store.at_hd.trans (if_pos rfl)) rfl (canonL_N _ _) _ _ | exact tell_enc (enc := encE) (sz := 2) (l := e) (fun _ => rfl) rfl (Store.at_tl.trans (Store.at_tl.trans (Store.at_hd.trans (if_pos rfl)))) rfl (canonL_E _ _) _ _ | exact tell_enc (enc := encI) (sz := 1) (l := wantF n 0) (fun _ => rfl) rfl (Store.at_tl.trans (Store.at_hd.trans (if_pos rfl))) rfl (canonL_encI _ _) _ _) | (simp [go_sem, tell_u, tell_bool, tell_int, tell_str, tell_nilp, tell_nilm, tell_nilI, tell_nilF, tell_agg, tell_tup, tell_ifc, tell_ds, tell_dp, tell_op, tell_os, tell_mp, idxOf_nil, idxOf_cons, tellS_nil, tellS_cons, tellO_cells, tellO_map, tellO_iter, tellO_dead, store_get0, store_getS, tell_canonL, tell_canon, canonL, AV.canon, Bool.or_true, Bool.or_false, Bool.and_true, Bool.and_false, Bool.not_true, Bool.not_false, Option.some.injEq, canonL_N, canonL_E, canonL_encI, encI, encN, encE]; done) | (simp [go_sem, encN, encE, encI, tell_u, tell_bool, tell_int, tell_str, tell_nilp, tell_nilm, tell_nilI, tell_nilF, tell_agg, tell_tup, tell_ifc, tell_ds, tell_dp, tell_op, tell_os, tell_mp, idxOf_nil, idxOf_cons, tellS_nil, tellS_cons, tellO_cells, tellO_map, tellO_iter, tellO_dead, store_get0, store_getS, tell_canonL, tell_canon, canonL, AV.canon, Bool.or_true, Bool.or_false, Bool.and_true, Bool.and_false, Bool.not_true, Bool.not_false, Option.some.injEq, canonL_N, canonL_E, canonL_encI, encI, encN, encE]; done)), .inr (by first | rfl | (first | exact tell_enc (enc := encN) (sz := 3) (l := n) (fun _ => rfl) rfl (Store.at_hd.trans (if_pos rfl)) rfl (canonL_N _ _) _ _ | exact tell_enc (enc := encE) (sz := 2) (l := e) (fun _ => rfl) rfl (Store.at_tl.trans (Store.at_tl.trans (Store.at_hd.trans (if_pos rfl)))) rfl (canonL_E _ _) _ _ | exact tell_enc (enc := encI) (sz := 1) (l := wantF n 0) (fun _ => rfl) rfl (Store.at_tl.trans (Store.at_hd.trans (if_pos rfl))) rfl (canonL_encI _ _) _ _) | (simp [go_sem, tell_u, tell_bool, tell_int, tell_str, tell_nilp, tell_nilm, tell_nilI, tell_nilF, tell_agg, tell_tup, tell_ifc, tell_ds, tell_dp, tell_op, tell_os, tell_mp, idxOf_nil, idxOf_cons, tellS_nil, tellS_cons, tellO_cells, tellO_map, tellO_iter, tellO_dead, store_get0, store_getS, tell_canonL, tell_canon, canonL, AV.canon, Bool.or_true, Bool.or_false, Bool.and_true, Bool.and_false, Bool.not_true, Bool.not_false, Option.some.injEq, canonL_N, canonL_E, canonL_encI, encI, encN, encE]; done) | (simp [go_sem, encN, encE, encI, tell_u, tell_bool, tell_int, tell_str, tell_nilp, tell_nilm, tell_nilI, tell_nilF, tell_agg, tell_tup, tell_ifc, tell_ds, tell_dp, tell_op, tell_os, tell_mp, idxOf_nil, idxOf_cons, tellS_nil, tellS_cons, tellO_cells, tellO_map, tellO_iter, tellO_dead, store_get0, store_getS, tell_canonL, tell_canon, canonL, AV.canon, Bool.or_true, Bool.or_false, Bool.and_true, Bool.and_false, Bool.not_true, Bool.not_false, Option.some.injEq, canonL_N, canonL_E, canonL_encI, encI, encN, encE]; done)), .inl rfl, .inl rfl, .inl rfl, .inl rfl, .inl rfl, .inl rfl, .inl rfl, .inl rfl, .inl rfl, .inl rfl, .inl rfl, .inl rfl, .inl rfl, .inl rfl, .inl rfl, .inl rfl, .inl rfl, .inl rfl, .inl rfl, .inl rfl, .inl rfl, .inl rfl, .inl rfl, .inl rfl, .inl rfl, .inl rfl, .inl rfl, .inl rfl, .inl rfl, .inl rfl, .inl rfl, .inl rfl, .inl rfl, .inl rfl, .inl rfl, .inl rfl, .inl rfl, .inl rfl, .inl rfl, .inl rfl, .inl rfl, .inl rfl, .inl rfl, .inl rfl, .inl rfl, .inl rfl, .inl rfl, .inl rfl, .inl rfl, .inl rfl, .inl rfl, .inl rfl, .inl rfl, .inl rfl, .inl rfl, .inl rfl, .inl rfl, .inl rfl, .inl rfl, .inl rfl, .inl rfl, .inl rfl, .inl rfl, .inl rfl, .inl rfl, .inl rfl, .inl rfl, .inl rfl, .inl rfl, .inl rfl, .inl rfl, .inl rfl, .inl rfl, .inl rfl, .inl rfl, .inl rfl, .inl rfl, .inl rfl, .inl rfl, .inl rfl, .inl rfl, .inl rfl, .inl rfl, .inl rfl, .inl rfl, .inl rfl, .inl rfl, .inl rfl, .inl rfl, .inl rfl, .inl rfl, .inl rfl, .inl rfl, .inl rfl, .inl rfl, .inr (by first | rfl | (first | exact tell_enc (enc := encN) (sz := 3) (l := n) (fun _ => rfl) rfl (Store.at_hd.trans (if_pos rfl)) rfl (canonL_N _ _) _ _ | exact tell_enc (enc := encE) (sz := 2) (l := e) (fun _ => rfl) rfl (Store.at_tl.trans (Store.at_tl.trans (Store.at_hd.trans (if_pos rfl)))) rfl (canonL_E _ _) _ _ | exact tell_enc (enc := encI) (sz := 1) (l := wantF n 0) (fun _ => rfl) rfl (Store.at_tl.trans (Store.at_hd.trans (if_pos rfl))) rfl (canonL_encI _ _) _ _) | (simp [go_sem, tell_u, tell_bool, tell_int, tell_str, tell_nilp, tell_nilm, tell_nilI, tell_nilF, tell_agg, tell_tup, tell_ifc, tell_ds, tell_dp, tell_op, tell_os, tell_mp, idxOf_nil, idxOf_cons, tellS_nil, tellS_cons, tellO_cells, tellO_map, tellO_iter, tellO_dead, store_get0, store_getS, tell_canonL, tell_canon, canonL, AV.canon, Bool.or_true, Bool.or_false, Bool.and_true, Bool.and_false, Bool.not_true, Bool.not_false, Option.some.injEq, canonL_N, canonL_E, canonL_encI, encI, encN, encE]; done) | (simp [go_sem, encN, encE, encI, tell_u, tell_bool, tell_int, tell_str, tell_nilp, tell_nilm, tell_nilI, tell_nilF, tell_agg, tell_tup, tell_ifc, tell_ds, tell_dp, tell_op, tell_os, tell_mp, idxOf_nil, idxOf_cons, tellS_nil, tellS_cons, tellO_cells, tellO_map, tellO_iter, tellO_dead, store_get0, store_getS, tell_canonL, tell_canon, canonL, AV.canon, Bool.or_true, Bool.or_false, Bool.and_true, Bool.and_false, Bool.not_true, Bool.not_false, Option.some.injEq, canonL_N, canonL_E, canonL_encI, encI, encN, encE]; done)), .inr (by first | rfl | (first | exact tell_enc (enc := encN) (sz := 3) (l := n) (fun _ => rfl) rfl (Store.at_hd.trans (if_pos rfl)) rfl (canonL_N _ _) _ _ | exact tell_enc (enc := encE) (sz := 2) (l := e) (fun _ => rfl) rfl (Store.at_tl.trans (Store.at_tl.trans (Store.at_hd.trans (if_pos rfl)))) rfl (canonL_E _ _) _ _ | exact tell_enc (enc := encI) (sz := 1) (l := wantF n 0) (fun _ => rfl) rfl (Store.at_tl.trans (Store.at_hd.trans (if_pos rfl))) rfl (canonL_encI _ _) _ _) | (simp [go_sem, tell_u, tell_bool, tell_int, tell_str, tell_nilp, tell_nilm, tell_nilI, tell_nilF, tell_agg, tell_tup, tell_ifc, tell_ds, tell_dp, tell_op, tell_os, tell_mp, idxOf_nil, idxOf_cons, tellS_nil, tellS_cons, tellO_cells, tellO_map, tellO_iter, tellO_dead, store_get0, store_getS, tell_canonL, tell_canon, canonL, AV.canon, Bool.or_true, Bool.or_false, Bool.and_true, Bool.and_false, Bool.not_true, Bool.not_false, Option.some.injEq, canonL_N, canonL_E, canonL_encI, encI, encN, encE]; done) | (simp [go_sem, encN, encE, encI, tell_u, tell_bool, tell_int, tell_str, tell_nilp, tell_nilm, tell_nilI, tell_nilF, tell_agg, tell_tup, tell_ifc, tell_ds, tell_dp, tell_op, tell_os, tell_mp, idxOf_nil, idxOf_cons, tellS_nil, tellS_cons, tellO_cells, tellO_map, tellO_iter, tellO_dead, store_get0, store_getS, tell_canonL, tell_canon, canonL, AV.canon, Bool.or_true, Bool.or_false, Bool.and_true, Bool.and_false, Bool.not_true, Bool.not_false, Option.some.injEq, canonL_N, canonL_E, canonL_encI, encI, encN, encE]; done)), trivial⟩) ?_
      refine opsWp_callD rfl rfl rfl (plan_pc_ev n e (by omega) (by omega) _) ?_
      rw [hpl]; rintro _ _ ⟨rfl, rfl⟩
      refine opsRunN tok 5 ?_
      simp only [go_sem, Nat.reduceLT, Nat.reduceLeDiff, Nat.reduceEqDiff, Nat.reduceAdd, Nat.reduceMul, Nat.reduceSub, reduceIte, reduceCtorEq, encE]
      refine opsWp_nil ?_
      refine hK _ _ (awp_keepM [false, false, false, false, false, false, false, false, true, true, false, false, false, false, false, false, true, true] ?_)
      clear hK K
      try simp only [go_sem, Nat.reduceLT, Nat.reduceLeDiff, Nat.reduceEqDiff, Nat.reduceAdd, Nat.reduceMul, Nat.reduceSub, reduceIte, reduceCtorEq]
      refine awp_seq_k fun K hK => ?_
      refine awp_region ?_
      refine opsRunN tok 3 ?_
      simp only [go_sem, Nat.reduceLT, Nat.reduceLeDiff, Nat.reduceEqDiff, Nat.reduceAdd, Nat.reduceMul, Nat.reduceSub, reduceIte, reduceCtorEq, encE]
      refine ops_if 112 rfl (fun hg112 => ?_) (fun hg112 => ?_)
      · skip
        refine opsRunN tok 2 ?_
        simp only [go_sem, Nat.reduceLT, Nat.reduceLeDiff, Nat.reduceEqDiff, Nat.reduceAdd, Nat.reduceMul, Nat.reduceSub, reduceIte, reduceCtorEq, encE]
        refine opsWp_callD rfl rfl rfl (same_pc_ev (wantF n 0) (wantF n 0) (by omega) (by omega) _) ?_
        rintro _ _ ⟨rfl, rfl⟩
        refine opsRunN tok 2 ?_
        simp only [go_sem, Nat.reduceLT, Nat.reduceLeDiff, Nat.reduceEqDiff, Nat.reduceAdd, Nat.reduceMul, Nat.reduceSub, reduceIte, reduceCtorEq, encE]
        refine ops_if 117 rfl (fun hg117 => ?_) (fun hg117 => ?_)
        · skip
          refine opsRunN tok 4 ?_
          simp only [go_sem, Nat.reduceLT, Nat.reduceLeDiff, Nat.reduceEqDiff, Nat.reduceAdd, Nat.reduceMul, Nat.reduceSub, reduceIte, reduceCtorEq, encE]
          refine ops_if 121 rfl (fun hg121 => ?_) (fun hg121 => ?_)
          · skip
            refine opsWp_callD rfl rfl rfl (awake_pc_ev _) ?_
            rintro _ _ ⟨rfl, rfl⟩
            refine opsRunN tok 2 ?_
            simp only [go_sem, Nat.reduceLT, Nat.reduceLeDiff, Nat.reduceEqDiff, Nat.reduceAdd, Nat.reduceMul, Nat.reduceSub, reduceIte, reduceCtorEq, encE]
            refine opsWp_nil ?_
            refine hK _ _ (awp_keepM [false, false, false, false, false, false, true] ?_)
            clear hK K
            try simp only [go_sem, Nat.reduceLT, Nat.reduceLeDiff, Nat.reduceEqDiff, Nat.reduceAdd, Nat.reduceMul, Nat.reduceSub, reduceIte, reduceCtorEq]
            refine awp_ret ?_
            simp only [retQ, resAll, resOne, resAV, exists_eq_left', go_sem, Nat.reduceLT, Nat.reduceLeDiff, Nat.reduceEqDiff, Nat.reduceAdd, Nat.reduceMul, Nat.reduceSub, reduceIte, reduceCtorEq, encE]
            first | rfl | (exfalso; simp_all; done) | (exfalso; omega)
          · skip
            refine opsRunN tok 3 ?_
            simp only [go_sem, Nat.reduceLT, Nat.reduceLeDiff, Nat.reduceEqDiff, Nat.reduceAdd, Nat.reduceMul, Nat.reduceSub, reduceIte, reduceCtorEq, encE]
            refine opsWp_nil ?_
            refine hK _ _ (awp_keepM [false, false, false, false, false, false, true] ?_)
            clear hK K
            try simp only [go_sem, Nat.reduceLT, Nat.reduceLeDiff, Nat.reduceEqDiff, Nat.reduceAdd, Nat.reduceMul, Nat.reduceSub, reduceIte, reduceCtorEq]
            refine awp_ret ?_
            simp only [retQ, resAll, resOne, resAV, exists_eq_left', go_sem, Nat.reduceLT, Nat.reduceLeDiff, Nat.reduceEqDiff, Nat.reduceAdd, Nat.reduceMul, Nat.reduceSub, reduceIte, reduceCtorEq, encE]
            first | rfl | (exfalso; simp_all; done) | (exfalso; omega)
        · skip
          refine opsRunN tok 7 ?_
          simp only [go_sem, Nat.reduceLT, Nat.reduceLeDiff, Nat.reduceEqDiff, Nat.reduceAdd, Nat.reduceMul, Nat.reduceSub, reduceIte, reduceCtorEq, encE]
          refine opsWp_nil ?_
          refine hK _ _ (awp_keepM [false, false, false, false, false, false, true] ?_)
          clear hK K
          try simp only [go_sem, Nat.reduceLT, Nat.reduceLeDiff, Nat.reduceEqDiff, Nat.reduceAdd, Nat.reduceMul, Nat.reduceSub, reduceIte, reduceCtorEq]
          refine awp_ret ?_
          simp only [retQ, resAll, resOne, resAV, exists_eq_left', go_sem, Nat.reduceLT, Nat.reduceLeDiff, Nat.reduceEqDiff, Nat.reduceAdd, Nat.reduceMul, Nat.reduceSub, reduceIte, reduceCtorEq, encE]
          first | rfl | (exfalso; simp_all; done) | (exfalso; omega)
      · skip
        refine opsRunN tok 8 ?_
        simp only [go_sem, Nat.reduceLT, Nat.reduceLeDiff, Nat.reduceEqDiff, Nat.reduceAdd, Nat.reduceMul, Nat.reduceSub, reduceIte, reduceCtorEq, encE]
        refine opsRunN tok 4 ?_
        simp only [go_sem, Nat.reduceLT, Nat.reduceLeDiff, Nat.reduceEqDiff, Nat.reduceAdd, Nat.reduceMul, Nat.reduceSub, reduceIte, reduceCtorEq, encE]
        refine opsWp_nil ?_
        refine hK _ _ (awp_keepM [false, false, false, false, false, false, true] ?_)
        clear hK K
        try simp only [go_sem, Nat.reduceLT, Nat.reduceLeDiff, Nat.reduceEqDiff, Nat.reduceAdd, Nat.reduceMul, Nat.reduceSub, reduceIte, reduceCtorEq]
        refine awp_ret ?_
        simp only [retQ, resAll, resOne, resAV, exists_eq_left', go_sem, Nat.reduceLT, Nat.reduceLeDiff, Nat.reduceEqDiff, Nat.reduceAdd, Nat.reduceMul, Nat.reduceSub, reduceIte, reduceCtorEq, encE]
        first | rfl | (exfalso; simp_all; done) | (exfalso; omega)

theorem wide_pc_ev (vs ts : List Int) (es : List Ed) (hv : vs.length < 9223372036854775808) (ht : ts.length < 9223372036854775808) (he : es.length < 9223372036854775808) (σ : Store) : ACalls Try.prog 9 [.ds true (vs.flatMap encI) vs.length false, .ds true (ts.flatMap encI) ts.length false, .ds true (es.flatMap encE) es.length false] σ fun r σ' => r = .bool true ∧ σ' = σ :=
  (wide_pc vs ts es hv ht he).pureAt (by simp [AV.canon, canonL, canonL_N, canonL_E, canonL_encI, encI, encN, encE]) (by simp [AV.canon, canonL, canonL_N, canonL_E, canonL_encI, encI, encN, encE]) σ


end Go.Proofs.Ytplddidoobjcnaa
