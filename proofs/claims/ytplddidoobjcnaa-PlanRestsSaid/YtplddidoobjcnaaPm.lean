/- PlanTurns: what its function answers. -/
import Derived.Test.YtplddidoobjcnaaPl
set_option maxRecDepth 4000
set_option maxHeartbeats 2000000
set_option linter.unusedSimpArgs false
set_option linter.unusedVariables false
set_option linter.constructorNameAsVariable false
namespace Go.Proofs.Ytplddidoobjcnaa
open AM

def swapE (e : Ed) : Ed := ⟨e.t, e.f⟩

theorem fitS_comm (a b : Nd) : fitS a b = fitS b a := by
  unfold fitS
  have h1 : min2 a.v b.v = min2 b.v a.v := by unfold min2; (repeat' split) <;> omega
  have h2 : max2 (leastS a).1 (leastS b).1 = max2 (leastS b).1 (leastS a).1 := by unfold max2; (repeat' split) <;> omega
  rw [h1, h2, ← Bool.and_assoc, Bool.and_comm (leastS a).2, Bool.and_assoc]

def Symm (P : Ed → Bool) : Prop := ∀ y, P (swapE y) = P y

theorem rightS_all (ns : List Nd) (es : List Ed) : rightS ns es = es.all fun e => okE ns e && fitS (ns.getD e.f.toNat default) (ns.getD e.t.toNat default) := by
  induction es with
  | nil => rfl
  | cons e l ih => rw [rightS, ih, List.all_cons, Bool.and_assoc]

theorem symm_ok (ns : List Nd) : Symm (okE ns) := fun y => by unfold okE swapE; rw [Bool.and_comm]
theorem symm_right (ns : List Nd) : Symm fun e => okE ns e && fitS (ns.getD e.f.toNat default) (ns.getD e.t.toNat default) := fun y => by
  show (okE ns (swapE y) && fitS (ns.getD y.t.toNat default) (ns.getD y.f.toNat default)) = _
  rw [symm_ok ns y, fitS_comm]

theorem pathF_congr {es fs : List Ed} (h : ∀ ns, rightS ns fs = rightS ns es) : ∀ f ns, pathF fs f ns = pathF es f ns := by
  intro f
  induction f with
  | zero => intro ns; rfl
  | succ f ih =>
    intro ns
    rw [pathF, pathF, h]
    congr 1
    congr 1
    exact tryF_congr (fun i _ => ih _) _ _

theorem turn_plan {es fs : List Ed} (h : ∀ P, Symm P → fs.all P = es.all P) (hf : fs.length ≤ 64) (he : es.length ≤ 64) (ns : List Nd) : planS ns fs = planS ns es ∧ rightS ns fs = rightS ns es := by
  have hr : ∀ ns, rightS ns fs = rightS ns es := fun ns => by rw [rightS_all, rightS_all]; exact h _ (symm_right ns)
  refine ⟨?_, hr ns⟩
  have hc : checkS ns fs = checkS ns es := by
    unfold checkS
    rw [h _ (symm_ok ns)]
    by_cases h6 : 6 < ns.length
    · rw [if_pos (.inl h6), if_pos (.inl h6)]
    · have g1 : ¬ (6 < ns.length ∨ 64 < fs.length) := by omega
      have g2 : ¬ (6 < ns.length ∨ 64 < es.length) := by omega
      rw [if_neg g1, if_neg g2]
  have hp : path fs ns = path es ns := pathF_congr hr _ ns
  unfold planS
  rw [hc, hp]

theorem all_turn {P : Ed → Bool} (hP : Symm P) {es acc : List Ed} {c : Nat} (hc : c < es.length) (h : acc.all P = (es.drop (c + 1)).all P) : (acc ++ [swapE es[c]]).all P = (es.drop c).all P ∧ (acc ++ [swapE es[c]] ++ [es[c]]).all P = (es.drop c).all P := by
  rw [List.drop_eq_getElem_cons hc, List.all_cons, List.all_append, List.all_append, h]
  simp only [List.all_cons, List.all_nil, Bool.and_true, List.all_append, hP es[c], h]
  generalize P es[c] = x
  generalize List.all _ _ = y
  cases x <;> cases y <;> decide

theorem planS_len (ns : List Nd) (es : List Ed) : (planS ns es).1.length ≤ 66 := by
  by_cases h : (planS ns es).2 = 0
  · obtain ⟨h1, h2⟩ := plan_ok h
    obtain ⟨hl, _, hok, _, _⟩ := check_ok h1
    have := path_length hok h2
    have := meas_le hok
    omega
  · rw [plan_bad h]; simp


theorem turns_pc (ns : List Nd) (es : List Ed) (hn : ns.length < 9223372036854775808) (he : es.length < 9223372036854775808) : ACalls Try.prog 11 [.ds true (ns.flatMap encN) ns.length false, .ds true (es.flatMap encE) es.length false] [] (fun r _ => r = .bool true) := by
  refine acalls_pure (rs := [.tmp 4]) tok Try.func11 rfl Try.ntmps11 rfl Try.call11 (by simp) ?_
  refine reg tok [true, true] fun K hK => ?_
  simp only [go_sem, Nat.reduceLT, Nat.reduceLeDiff, Nat.reduceEqDiff, Nat.reduceAdd, Nat.reduceMul, Nat.reduceSub, reduceIte, reduceCtorEq, encE]
  refine hK _ _ ?_
  clear hK K
  refine awp_seq_k fun Z1 hZ1 => ?_
  refine awp_seq_k fun K hK => ?_
  refine awp_region ?_
  refine opsRunN tok 4 ?_
  simp only [go_sem, Nat.reduceLT, Nat.reduceLeDiff, Nat.reduceEqDiff, Nat.reduceAdd, Nat.reduceMul, Nat.reduceSub, reduceIte, reduceCtorEq, encE]
  refine ops_if 14 rfl (fun hg14 => ?_) (fun hg14 => ?_)
  · skip
    refine opsRunN tok 4 ?_
    simp only [go_sem, Nat.reduceLT, Nat.reduceLeDiff, Nat.reduceEqDiff, Nat.reduceAdd, Nat.reduceMul, Nat.reduceSub, reduceIte, reduceCtorEq, encE]
    refine opsWp_nil ?_
    refine hK _ _ (awp_keepM [true, true, false, false, false, false, false, false, false, false, false, false, false, false, false, false, false, false, true] ?_)
    clear hK K
    try simp only [go_sem, Nat.reduceLT, Nat.reduceLeDiff, Nat.reduceEqDiff, Nat.reduceAdd, Nat.reduceMul, Nat.reduceSub, reduceIte, reduceCtorEq]
    refine awp_cond_t rfl ?_
    refine awp_seq_k fun K hK => ?_
    refine awp_region ?_
    refine opsWp_callD rfl rfl rfl (awake_pc_ev _) ?_
    rintro _ _ ⟨rfl, rfl⟩
    refine opsRunN tok 1 ?_
    simp only [go_sem, Nat.reduceLT, Nat.reduceLeDiff, Nat.reduceEqDiff, Nat.reduceAdd, Nat.reduceMul, Nat.reduceSub, reduceIte, reduceCtorEq, encE]
    refine opsWp_nil ?_
    refine hK _ _ (awp_keepM [false, false, false, false, true] ?_)
    clear hK K
    try simp only [go_sem, Nat.reduceLT, Nat.reduceLeDiff, Nat.reduceEqDiff, Nat.reduceAdd, Nat.reduceMul, Nat.reduceSub, reduceIte, reduceCtorEq]
    refine awp_ret ?_
    simp only [retQ, resAll, resOne, resAV, exists_eq_left', go_sem, Nat.reduceLT, Nat.reduceLeDiff, Nat.reduceEqDiff, Nat.reduceAdd, Nat.reduceMul, Nat.reduceSub, reduceIte, reduceCtorEq, encE]
    first | rfl | (exfalso; simp_all; done)
  · skip
    refine opsRunN tok 4 ?_
    simp only [go_sem, Nat.reduceLT, Nat.reduceLeDiff, Nat.reduceEqDiff, Nat.reduceAdd, Nat.reduceMul, Nat.reduceSub, reduceIte, reduceCtorEq, encE]
    refine opsWp_nil ?_
    refine hK _ _ (awp_keepM [true, true, false, false, false, false, false, false, false, false, false, false, false, false, false, false, false, false, true] ?_)
    clear hK K
    try simp only [go_sem, Nat.reduceLT, Nat.reduceLeDiff, Nat.reduceEqDiff, Nat.reduceAdd, Nat.reduceMul, Nat.reduceSub, reduceIte, reduceCtorEq]
    refine awp_if rfl (fun hcc2 => ?_) (fun hcc2 => ?_)
    · skip
      refine awp_seq_k fun K hK => ?_
      refine awp_region ?_
      refine opsWp_callD rfl rfl rfl (awake_pc_ev _) ?_
      rintro _ _ ⟨rfl, rfl⟩
      refine opsRunN tok 1 ?_
      simp only [go_sem, Nat.reduceLT, Nat.reduceLeDiff, Nat.reduceEqDiff, Nat.reduceAdd, Nat.reduceMul, Nat.reduceSub, reduceIte, reduceCtorEq, encE]
      refine opsWp_nil ?_
      refine hK _ _ (awp_keepM [false, false, false, false, true] ?_)
      clear hK K
      try simp only [go_sem, Nat.reduceLT, Nat.reduceLeDiff, Nat.reduceEqDiff, Nat.reduceAdd, Nat.reduceMul, Nat.reduceSub, reduceIte, reduceCtorEq]
      refine awp_ret ?_
      simp only [retQ, resAll, resOne, resAV, exists_eq_left', go_sem, Nat.reduceLT, Nat.reduceLeDiff, Nat.reduceEqDiff, Nat.reduceAdd, Nat.reduceMul, Nat.reduceSub, reduceIte, reduceCtorEq, encE]
      first | rfl | (exfalso; simp_all; done)
    · skip
      refine awp_skip ?_
      refine hZ1 _ _ ?_
      have hn20 : ns.length ≤ 20 := by omega
      have he30 : es.length ≤ 30 := by omega
      refine reg tok [true, true, false, false, false, true] fun K hK => ?_
      simp only [go_sem, Nat.reduceLT, Nat.reduceLeDiff, Nat.reduceEqDiff, Nat.reduceAdd, Nat.reduceMul, Nat.reduceSub, reduceIte, reduceCtorEq, encE]
      refine hK _ _ ?_
      clear hK K
      refine awp_seq_k fun Z2 hZ2 => ?_
      have hwl : IntKind.i64.wrap ((es.length : Int) - 1) = (es.length : Int) - 1 := i64_in (by omega) (by omega)
      refine reg tok [true, true, false, false, false, true, true] fun K hK => ?_
      simp only [go_sem, Nat.reduceLT, Nat.reduceLeDiff, Nat.reduceEqDiff, Nat.reduceAdd, Nat.reduceMul, Nat.reduceSub, reduceIte, reduceCtorEq, encE, hwl]
      refine hK _ _ ?_
      clear hK K
      refine awp_virt 5 2 rfl ?_
      simp only [go_sem]
      refine awp_block ?_
      refine awp_loopT (fun m L τ => ∃ (c : Nat) (acc : List Ed) (ver : Nat), m = 0 + c ∧ L = ([(.ds true (ns.flatMap encN) ns.length false), (.ds true (es.flatMap encE) es.length false), .u, .u, .u, (.os true 2 0 ver 0 acc.length false), (.int .i64 ((c : Int) - 1))] : List AV) ∧ τ = ([.cells ver (acc.flatMap encE)] : Store) ∧ c ≤ es.length ∧ acc.length ≤ 2 * (es.length - c) ∧ ∀ P, Symm P → acc.all P = (es.drop c).all P) _ ⟨es.length, [], 0, rfl, rfl, rfl, by exact ⟨by omega, by simp, fun P _ => by simp⟩⟩ ?_ ?_
      · exact Tells.mk' [0] false 12 (by decide) (by simp) (by first | rfl | simp) (by first | rfl | simp [tell_u, tell_bool, tell_int, tell_str, tell_nilp, tell_nilm, tell_nilI, tell_nilF, tell_agg, tell_tup, tell_ifc, tell_ds, tell_dp, tell_op, tell_os, tell_mp, idxOf_nil, idxOf_cons, tellS_nil, tellS_cons, tellO_cells, tellO_map, tellO_iter, tellO_dead, store_get0, store_getS, tell_canonL, tell_canon, canonL, AV.canon, Bool.or_true, Bool.or_false, Bool.and_true, Bool.and_false, Bool.not_true, Bool.not_false, Option.some.injEq, canonL_N, canonL_E, canonL_encI, swapE, encE]) ⟨.inr (by first | exact tell_canon _ _ _ (.ds true (ns.flatMap encN) ns.length false) 12 (by simp [AV.canon, canonL, canonL_N, canonL_E, canonL_encI, swapE, encE]) | rfl), .inr (by first | exact tell_canon _ _ _ (.ds true (es.flatMap encE) es.length false) 12 (by simp [AV.canon, canonL, canonL_N, canonL_E, canonL_encI, swapE, encE]) | rfl), .inl rfl, .inl rfl, .inl rfl, .inr (by first | rfl | simp [go_sem, tell_u, tell_bool, tell_int, tell_str, tell_nilp, tell_nilm, tell_nilI, tell_nilF, tell_agg, tell_tup, tell_ifc, tell_ds, tell_dp, tell_op, tell_os, tell_mp, idxOf_nil, idxOf_cons, tellS_nil, tellS_cons, tellO_cells, tellO_map, tellO_iter, tellO_dead, store_get0, store_getS, tell_canonL, tell_canon, canonL, AV.canon, Bool.or_true, Bool.or_false, Bool.and_true, Bool.and_false, Bool.not_true, Bool.not_false, Option.some.injEq]), .inr (by first | exact tell_canon _ _ _ (.int .i64 ((c : Int) - 1)) 12 (by simp [AV.canon, canonL, canonL_N, canonL_E, canonL_encI, swapE, encE]) | rfl), trivial⟩
      rintro m L τ ⟨c, acc, ver, rfl, rfl, rfl, hcl, hal, hP⟩
      refine awp_seq_k fun Z3 hZ3 => ?_
      refine reg tok [true, true, false, false, false, true, true, false, false, false, false, false, false, false, false, false, false, false, false, false, false, false, false, false, true] fun K hK => ?_
      simp only [go_sem, Nat.reduceLT, Nat.reduceLeDiff, Nat.reduceEqDiff, Nat.reduceAdd, Nat.reduceMul, Nat.reduceSub, reduceIte, reduceCtorEq, encE]
      refine hK _ _ ?_
      clear hK K
      refine awp_if rfl (fun hcc5 => ?_) (fun hcc5 => ?_)
      · skip
        obtain ⟨c, rfl⟩ : ∃ c', c = c' + 1 := ⟨c - 1, by omega⟩
        have hc1 : (((c + 1 : Nat) : Int) - 1) = (c : Int) := by omega
        have hc2 : IntKind.i64.wrap ((c : Int) - 1) = (c : Int) - 1 := i64_in (by omega) (by omega)
        have hcl : c < es.length := by omega
        have a1 : ((acc.length + 1) * 16 ≤ 140737488355328) = True := eq_true (by omega)
        have a2 : (acc.flatMap encE).length = acc.length * 2 := enc_length (enc := encE) (sz := 2) (fun _ => rfl) acc
        have a3 : ((acc.length + 1 + 1) * 16 ≤ 140737488355328) = True := eq_true (by omega)
        have a4 : ((List.flatMap encE acc ++ [AV.int .i64 es[c].t, AV.int .i64 es[c].f]).length = (acc.length + 1) * 2) = True := eq_true (by rw [List.length_append, a2]; simp; omega)
        have jx := fun nl tt q => encE_E.idx (l := es) (k := (c : Int)) (by omega) (by omega) nl tt q
        have jl := fun σ => encE_E.load rfl rfl (l := es) (i := c) hcl σ
        have j0 := fun σ => encE_E.fld0 (f := 3) rfl rfl (l := es) (i := c) hcl σ
        have j1 := fun σ => encE_E.fld (f := 3) rfl rfl (l := es) (i := c) hcl (o := 1) (by decide) σ
        refine awp_skip ?_
        refine hZ3 _ _ ?_
        refine awp_seq_k fun Z4 hZ4 => ?_
        refine awp_block ?_
        refine awp_seq_k fun K hK => ?_
        refine DW.start (T := tab) [.any, .any, .any, .any, .any, .at [], .any, .any, .any, .any, .at [], .any, .eff, .eff, .any] [0] ?_
        refine DW.runN tok 8 ?_
        simp only [go_sem, Nat.reduceLT, Nat.reduceLeDiff, Nat.reduceEqDiff, Nat.reduceAdd, Nat.reduceMul, Nat.reduceSub, reduceIte, reduceCtorEq, encE, hc1, hc2, jx, jl, j0, j1, Int.toNat_natCast, evAppend, a1, a2, zeroRun, List.range_succ, List.range_zero, true_and, Nat.reduceMod, encE_one]
        refine DW.runN tok 7 ?_
        simp only [go_sem, Nat.reduceLT, Nat.reduceLeDiff, Nat.reduceEqDiff, Nat.reduceAdd, Nat.reduceMul, Nat.reduceSub, reduceIte, reduceCtorEq, evBuildSlice, zeroRun, evAppendTo, lenOfAV, srcCells, encE, hc1, hc2, jx, jl, j0, j1, Int.toNat_natCast, evAppend, a1, a2, List.range_succ, List.range_zero, true_and, Nat.reduceMod, encE_one]
        refine DW.fin tok (by decide +kernel) rfl ?_
        refine hK _ _ (awp_keepM [true, true, false, false, false, true, true] ?_)
        clear hK K
        try simp only [go_sem, Nat.reduceLT, Nat.reduceLeDiff, Nat.reduceEqDiff, Nat.reduceAdd, Nat.reduceMul, Nat.reduceSub, reduceIte, reduceCtorEq]
        refine reg tok [true, true, false, false, false, true, true, false, false, false, false, false, false, false, false, false, false, false, false, false, false, false, false, false, false, false, false, false, false, false, false, false, false, false, false, false, false, false, false, false, false, false, false, true] fun K hK => ?_
        simp only [go_sem, Nat.reduceLT, Nat.reduceLeDiff, Nat.reduceEqDiff, Nat.reduceAdd, Nat.reduceMul, Nat.reduceSub, reduceIte, reduceCtorEq, encE, hc1, hc2, Int.reduceEq]
        refine hK _ _ ?_
        clear hK K
        refine awp_if rfl (fun hcc8 => ?_) (fun hcc8 => ?_)
        · skip
          refine regEnd tok ?_
          simp only [go_sem, Nat.reduceLT, Nat.reduceLeDiff, Nat.reduceEqDiff, Nat.reduceAdd, Nat.reduceMul, Nat.reduceSub, reduceIte, reduceCtorEq, evBuildSlice, zeroRun, evAppendTo, lenOfAV, srcCells, encE, hc1, hc2, jx, jl, j0, j1, Int.toNat_natCast, evAppend, a1, a2, a3, a4, List.range_succ, List.range_zero, true_and, Nat.reduceMod, encE_one]
          refine hZ4 _ _ ?_
          refine regEnd tok ?_
          simp only [go_sem, Nat.reduceLT, Nat.reduceLeDiff, Nat.reduceEqDiff, Nat.reduceAdd, Nat.reduceMul, Nat.reduceSub, reduceIte, reduceCtorEq, encE, hc1, hc2]
          refine ⟨_, _, _, ?_, ⟨c, acc ++ [swapE es[c]] ++ [es[c]], ver + 1 + 1, rfl, rfl, rfl, ?_⟩, ?_⟩
          · omega
          · exact ⟨by omega, by simp; omega, fun P hp => (all_turn hp hcl (hP P hp)).2⟩
          · exact Tells.mk' [0] false 12 (by decide) (by simp) (by first | rfl | simp) (by first | rfl | simp [tell_u, tell_bool, tell_int, tell_str, tell_nilp, tell_nilm, tell_nilI, tell_nilF, tell_agg, tell_tup, tell_ifc, tell_ds, tell_dp, tell_op, tell_os, tell_mp, idxOf_nil, idxOf_cons, tellS_nil, tellS_cons, tellO_cells, tellO_map, tellO_iter, tellO_dead, store_get0, store_getS, tell_canonL, tell_canon, canonL, AV.canon, Bool.or_true, Bool.or_false, Bool.and_true, Bool.and_false, Bool.not_true, Bool.not_false, Option.some.injEq, canonL_N, canonL_E, canonL_encI, swapE, encE]) ⟨.inr (by first | exact tell_canon _ _ _ (.ds true (ns.flatMap encN) ns.length false) 12 (by simp [AV.canon, canonL, canonL_N, canonL_E, canonL_encI, swapE, encE]) | rfl), .inr (by first | exact tell_canon _ _ _ (.ds true (es.flatMap encE) es.length false) 12 (by simp [AV.canon, canonL, canonL_N, canonL_E, canonL_encI, swapE, encE]) | rfl), .inl rfl, .inl rfl, .inl rfl, .inr (by first | rfl | simp [go_sem, tell_u, tell_bool, tell_int, tell_str, tell_nilp, tell_nilm, tell_nilI, tell_nilF, tell_agg, tell_tup, tell_ifc, tell_ds, tell_dp, tell_op, tell_os, tell_mp, idxOf_nil, idxOf_cons, tellS_nil, tellS_cons, tellO_cells, tellO_map, tellO_iter, tellO_dead, store_get0, store_getS, tell_canonL, tell_canon, canonL, AV.canon, Bool.or_true, Bool.or_false, Bool.and_true, Bool.and_false, Bool.not_true, Bool.not_false, Option.some.injEq]), .inr (by first | exact tell_canon _ _ _ (.int .i64 ((c : Int) - 1)) 12 (by simp [AV.canon, canonL, canonL_N, canonL_E, canonL_encI, swapE, encE]) | rfl), trivial⟩
        · skip
          refine awp_skip ?_
          refine hZ4 _ _ ?_
          refine regEnd tok ?_
          simp only [go_sem, Nat.reduceLT, Nat.reduceLeDiff, Nat.reduceEqDiff, Nat.reduceAdd, Nat.reduceMul, Nat.reduceSub, reduceIte, reduceCtorEq, encE, hc1, hc2]
          refine ⟨_, _, _, ?_, ⟨c, acc ++ [swapE es[c]], ver + 1, rfl, rfl, rfl, ?_⟩, ?_⟩
          · omega
          · exact ⟨by omega, by simp; omega, fun P hp => (all_turn hp hcl (hP P hp)).1⟩
          · exact Tells.mk' [0] false 12 (by decide) (by simp) (by first | rfl | simp) (by first | rfl | simp [tell_u, tell_bool, tell_int, tell_str, tell_nilp, tell_nilm, tell_nilI, tell_nilF, tell_agg, tell_tup, tell_ifc, tell_ds, tell_dp, tell_op, tell_os, tell_mp, idxOf_nil, idxOf_cons, tellS_nil, tellS_cons, tellO_cells, tellO_map, tellO_iter, tellO_dead, store_get0, store_getS, tell_canonL, tell_canon, canonL, AV.canon, Bool.or_true, Bool.or_false, Bool.and_true, Bool.and_false, Bool.not_true, Bool.not_false, Option.some.injEq, canonL_N, canonL_E, canonL_encI, swapE, encE]) ⟨.inr (by first | exact tell_canon _ _ _ (.ds true (ns.flatMap encN) ns.length false) 12 (by simp [AV.canon, canonL, canonL_N, canonL_E, canonL_encI, swapE, encE]) | rfl), .inr (by first | exact tell_canon _ _ _ (.ds true (es.flatMap encE) es.length false) 12 (by simp [AV.canon, canonL, canonL_N, canonL_E, canonL_encI, swapE, encE]) | rfl), .inl rfl, .inl rfl, .inl rfl, .inr (by first | rfl | simp [go_sem, tell_u, tell_bool, tell_int, tell_str, tell_nilp, tell_nilm, tell_nilI, tell_nilF, tell_agg, tell_tup, tell_ifc, tell_ds, tell_dp, tell_op, tell_os, tell_mp, idxOf_nil, idxOf_cons, tellS_nil, tellS_cons, tellO_cells, tellO_map, tellO_iter, tellO_dead, store_get0, store_getS, tell_canonL, tell_canon, canonL, AV.canon, Bool.or_true, Bool.or_false, Bool.and_true, Bool.and_false, Bool.not_true, Bool.not_false, Option.some.injEq]), .inr (by first | exact tell_canon _ _ _ (.int .i64 ((c : Int) - 1)) 12 (by simp [AV.canon, canonL, canonL_N, canonL_E, canonL_encI, swapE, encE]) | rfl), trivial⟩
      · skip
        refine awp_exit ?_
        refine hZ2 _ _ ?_
        obtain rfl : c = 0 := by omega
        obtain ⟨ht1, ht2⟩ := turn_plan (fs := acc) (es := es) (fun P hp => by simpa using hP P hp) (by omega) (by omega) ns
        refine awp_seq_k fun K hK => ?_
        refine awp_region ?_
        refine opsRunN tok 1 ?_
        simp only [go_sem, Nat.reduceLT, Nat.reduceLeDiff, Nat.reduceEqDiff, Nat.reduceAdd, Nat.reduceMul, Nat.reduceSub, reduceIte, reduceCtorEq, encE]
        refine opsWp_callD rfl rfl rfl (nodes_pc_ev _ (by first | assumption | omega | (simp; done)) _) ?_
        rintro _ _ ⟨rfl, rfl⟩
        refine opsRunN tok 1 ?_
        simp only [go_sem, Nat.reduceLT, Nat.reduceLeDiff, Nat.reduceEqDiff, Nat.reduceAdd, Nat.reduceMul, Nat.reduceSub, reduceIte, reduceCtorEq, encE]
        refine opsWp_callD rfl rfl rfl (edges_pc_ev _ (by first | assumption | omega | (simp; done)) _) ?_
        rintro _ _ ⟨rfl, rfl⟩
        refine opsWp_callD rfl rfl rfl (plan_pc_ev _ _ (by first | assumption | omega | (simp; done)) (by first | assumption | omega | (simp; done)) _) ?_
        rintro _ _ ⟨rfl, rfl⟩
        refine opsRunN tok 5 ?_
        simp only [go_sem, Nat.reduceLT, Nat.reduceLeDiff, Nat.reduceEqDiff, Nat.reduceAdd, Nat.reduceMul, Nat.reduceSub, reduceIte, reduceCtorEq, encE]
        refine opsWp_nil ?_
        refine hK _ _ (awp_keepM [true, true, false, false, false, true, false, true, true] ?_)
        clear hK K
        try simp only [go_sem, Nat.reduceLT, Nat.reduceLeDiff, Nat.reduceEqDiff, Nat.reduceAdd, Nat.reduceMul, Nat.reduceSub, reduceIte, reduceCtorEq]
        refine awp_seq_k fun K hK => ?_
        refine awp_region ?_
        refine opsRunN tok 1 ?_
        simp only [go_sem, Nat.reduceLT, Nat.reduceLeDiff, Nat.reduceEqDiff, Nat.reduceAdd, Nat.reduceMul, Nat.reduceSub, reduceIte, reduceCtorEq, encE]
        refine opsWp_callD rfl rfl rfl (nodes_pc_ev _ (by first | assumption | omega | (simp; done)) _) ?_
        rintro _ _ ⟨rfl, rfl⟩
        refine opsRunN tok 1 ?_
        simp only [go_sem, Nat.reduceLT, Nat.reduceLeDiff, Nat.reduceEqDiff, Nat.reduceAdd, Nat.reduceMul, Nat.reduceSub, reduceIte, reduceCtorEq, encE]
        refine opsWp_tells [(.ds true (ns.flatMap encN) ns.length false), (.ds true (es.flatMap encE) es.length false), .u, .u, .u, (.ds true (acc.flatMap encE) acc.length false), .u, (.ds true ((planS ns es).1.flatMap encI) (planS ns es).1.length false), (.int .i64 (planS ns es).2), .u, .u, .u, .u, .u, .u, .u, .u, .u, .u, .u, .u, .u, .u, .u, .u, .u, .u, .u, .u, .u, .u, .u, .u, .u, .u, .u, .u, .u, .u, .u, .u, .u, .u, .u, .u, .u, .u, .u, .u, .u, .u, .u, .u, .u, .u, .u, .u, .u, .u, .u, .u, (.ds true (ns.flatMap encN) ns.length false), (.ds true (acc.flatMap encE) acc.length false)] [] (Tells.mk' [] true 12 (by decide) (by simp) (by first | rfl | simp) (by first | rfl | simp [tell_u, tell_bool, tell_int, tell_str, tell_nilp, tell_nilm, tell_nilI, tell_nilF, tell_agg, tell_tup, tell_ifc, tell_ds, tell_dp, tell_op, tell_os, tell_mp, idxOf_nil, idxOf_cons, tellS_nil, tellS_cons, tellO_cells, tellO_map, tellO_iter, tellO_dead, store_get0, store_getS, tell_canonL, tell_canon, canonL, AV.canon, Bool.or_true, Bool.or_false, Bool.and_true, Bool.and_false, Bool.not_true, Bool.not_false, Option.some.injEq, canonL_N, canonL_E, canonL_encI, swapE, encE]) ⟨.inr (by first | rfl | (exact tell_enc (enc := encE) (sz := 2) (l := acc) (fun _ => rfl) rfl (Store.at_hd.trans (if_pos rfl)) rfl (canonL_E _ _) _ _) | (simp [go_sem, tell_u, tell_bool, tell_int, tell_str, tell_nilp, tell_nilm, tell_nilI, tell_nilF, tell_agg, tell_tup, tell_ifc, tell_ds, tell_dp, tell_op, tell_os, tell_mp, idxOf_nil, idxOf_cons, tellS_nil, tellS_cons, tellO_cells, tellO_map, tellO_iter, tellO_dead, store_get0, store_getS, tell_canonL, tell_canon, canonL, AV.canon, Bool.or_true, Bool.or_false, Bool.and_true, Bool.and_false, Bool.not_true, Bool.not_false, Option.some.injEq, canonL_N, canonL_E, canonL_encI, swapE, encE]; done) | (simp [go_sem, encN, encE, encI, tell_u, tell_bool, tell_int, tell_str, tell_nilp, tell_nilm, tell_nilI, tell_nilF, tell_agg, tell_tup, tell_ifc, tell_ds, tell_dp, tell_op, tell_os, tell_mp, idxOf_nil, idxOf_cons, tellS_nil, tellS_cons, tellO_cells, tellO_map, tellO_iter, tellO_dead, store_get0, store_getS, tell_canonL, tell_canon, canonL, AV.canon, Bool.or_true, Bool.or_false, Bool.and_true, Bool.and_false, Bool.not_true, Bool.not_false, Option.some.injEq, canonL_N, canonL_E, canonL_encI, swapE, encE]; done)), .inr (by first | rfl | (exact tell_enc (enc := encE) (sz := 2) (l := acc) (fun _ => rfl) rfl (Store.at_hd.trans (if_pos rfl)) rfl (canonL_E _ _) _ _) | (simp [go_sem, tell_u, tell_bool, tell_int, tell_str, tell_nilp, tell_nilm, tell_nilI, tell_nilF, tell_agg, tell_tup, tell_ifc, tell_ds, tell_dp, tell_op, tell_os, tell_mp, idxOf_nil, idxOf_cons, tellS_nil, tellS_cons, tellO_cells, tellO_map, tellO_iter, tellO_dead, store_get0, store_getS, tell_canonL, tell_canon, canonL, AV.canon, Bool.or_true, Bool.or_false, Bool.and_true, Bool.and_false, Bool.not_true, Bool.not_false, Option.some.injEq, canonL_N, canonL_E, canonL_encI, swapE, encE]; done) | (simp [go_sem, encN, encE, encI, tell_u, tell_bool, tell_int, tell_str, tell_nilp, tell_nilm, tell_nilI, tell_nilF, tell_agg, tell_tup, tell_ifc, tell_ds, tell_dp, tell_op, tell_os, tell_mp, idxOf_nil, idxOf_cons, tellS_nil, tellS_cons, tellO_cells, tellO_map, tellO_iter, tellO_dead, store_get0, store_getS, tell_canonL, tell_canon, canonL, AV.canon, Bool.or_true, Bool.or_false, Bool.and_true, Bool.and_false, Bool.not_true, Bool.not_false, Option.some.injEq, canonL_N, canonL_E, canonL_encI, swapE, encE]; done)), .inl rfl, .inl rfl, .inl rfl, .inr (by first | rfl | (exact tell_enc (enc := encE) (sz := 2) (l := acc) (fun _ => rfl) rfl (Store.at_hd.trans (if_pos rfl)) rfl (canonL_E _ _) _ _) | (simp [go_sem, tell_u, tell_bool, tell_int, tell_str, tell_nilp, tell_nilm, tell_nilI, tell_nilF, tell_agg, tell_tup, tell_ifc, tell_ds, tell_dp, tell_op, tell_os, tell_mp, idxOf_nil, idxOf_cons, tellS_nil, tellS_cons, tellO_cells, tellO_map, tellO_iter, tellO_dead, store_get0, store_getS, tell_canonL, tell_canon, canonL, AV.canon, Bool.or_true, Bool.or_false, Bool.and_true, Bool.and_false, Bool.not_true, Bool.not_false, Option.some.injEq, canonL_N, canonL_E, canonL_encI, swapE, encE]; done) | (simp [go_sem, encN, encE, encI, tell_u, tell_bool, tell_int, tell_str, tell_nilp, tell_nilm, tell_nilI, tell_nilF, tell_agg, tell_tup, tell_ifc, tell_ds, tell_dp, tell_op, tell_os, tell_mp, idxOf_nil, idxOf_cons, tellS_nil, tellS_cons, tellO_cells, tellO_map, tellO_iter, tellO_dead, store_get0, store_getS, tell_canonL, tell_canon, canonL, AV.canon, Bool.or_true, Bool.or_false, Bool.and_true, Bool.and_false, Bool.not_true, Bool.not_false, Option.some.injEq, canonL_N, canonL_E, canonL_encI, swapE, encE]; done)), .inl rfl, .inr (by first | rfl | (exact tell_enc (enc := encE) (sz := 2) (l := acc) (fun _ => rfl) rfl (Store.at_hd.trans (if_pos rfl)) rfl (canonL_E _ _) _ _) | (simp [go_sem, tell_u, tell_bool, tell_int, tell_str, tell_nilp, tell_nilm, tell_nilI, tell_nilF, tell_agg, tell_tup, tell_ifc, tell_ds, tell_dp, tell_op, tell_os, tell_mp, idxOf_nil, idxOf_cons, tellS_nil, tellS_cons, tellO_cells, tellO_map, tellO_iter, tellO_dead, store_get0, store_getS, tell_canonL, tell_canon, canonL, AV.canon, Bool.or_true, Bool.or_false, Bool.and_true, Bool.and_false, Bool.not_true, Bool.not_false, Option.some.injEq, canonL_N, canonL_E, canonL_encI, swapE, encE]; done) | (simp [go_sem, encN, encE, encI, tell_u, tell_bool, tell_int, tell_str, tell_nilp, tell_nilm, tell_nilI, tell_nilF, tell_agg, tell_tup, tell_ifc, tell_ds, tell_dp, tell_op, tell_os, tell_mp, idxOf_nil, idxOf_cons, tellS_nil, tellS_cons, tellO_cells, tellO_map, tellO_iter, tellO_dead, store_get0, store_getS, tell_canonL, tell_canon, canonL, AV.canon, Bool.or_true, Bool.or_false, Bool.and_true, Bool.and_false, Bool.not_true, Bool.not_false, Option.some.injEq, canonL_N, canonL_E, canonL_encI, swapE, encE]; done)), .inr (by first | rfl | (exact tell_enc (enc := encE) (sz := 2) (l := acc) (fun _ => rfl) rfl (Store.at_hd.trans (if_pos rfl)) rfl (canonL_E _ _) _ _) | (simp [go_sem, tell_u, tell_bool, tell_int, tell_str, tell_nilp, tell_nilm, tell_nilI, tell_nilF, tell_agg, tell_tup, tell_ifc, tell_ds, tell_dp, tell_op, tell_os, tell_mp, idxOf_nil, idxOf_cons, tellS_nil, tellS_cons, tellO_cells, tellO_map, tellO_iter, tellO_dead, store_get0, store_getS, tell_canonL, tell_canon, canonL, AV.canon, Bool.or_true, Bool.or_false, Bool.and_true, Bool.and_false, Bool.not_true, Bool.not_false, Option.some.injEq, canonL_N, canonL_E, canonL_encI, swapE, encE]; done) | (simp [go_sem, encN, encE, encI, tell_u, tell_bool, tell_int, tell_str, tell_nilp, tell_nilm, tell_nilI, tell_nilF, tell_agg, tell_tup, tell_ifc, tell_ds, tell_dp, tell_op, tell_os, tell_mp, idxOf_nil, idxOf_cons, tellS_nil, tellS_cons, tellO_cells, tellO_map, tellO_iter, tellO_dead, store_get0, store_getS, tell_canonL, tell_canon, canonL, AV.canon, Bool.or_true, Bool.or_false, Bool.and_true, Bool.and_false, Bool.not_true, Bool.not_false, Option.some.injEq, canonL_N, canonL_E, canonL_encI, swapE, encE]; done)), .inl rfl, .inl rfl, .inl rfl, .inl rfl, .inl rfl, .inl rfl, .inl rfl, .inl rfl, .inl rfl, .inl rfl, .inl rfl, .inl rfl, .inl rfl, .inl rfl, .inl rfl, .inl rfl, .inl rfl, .inl rfl, .inl rfl, .inl rfl, .inl rfl, .inl rfl, .inl rfl, .inl rfl, .inl rfl, .inl rfl, .inl rfl, .inl rfl, .inl rfl, .inl rfl, .inl rfl, .inl rfl, .inl rfl, .inl rfl, .inl rfl, .inl rfl, .inl rfl, .inl rfl, .inl rfl, .inl rfl, .inl rfl, .inl rfl, .inl rfl, .inl rfl, .inl rfl, .inl rfl, .inl rfl, .inl rfl, .inl rfl, .inl rfl, .inl rfl, .inl rfl, .inr (by first | rfl | (exact tell_enc (enc := encE) (sz := 2) (l := acc) (fun _ => rfl) rfl (Store.at_hd.trans (if_pos rfl)) rfl (canonL_E _ _) _ _) | (simp [go_sem, tell_u, tell_bool, tell_int, tell_str, tell_nilp, tell_nilm, tell_nilI, tell_nilF, tell_agg, tell_tup, tell_ifc, tell_ds, tell_dp, tell_op, tell_os, tell_mp, idxOf_nil, idxOf_cons, tellS_nil, tellS_cons, tellO_cells, tellO_map, tellO_iter, tellO_dead, store_get0, store_getS, tell_canonL, tell_canon, canonL, AV.canon, Bool.or_true, Bool.or_false, Bool.and_true, Bool.and_false, Bool.not_true, Bool.not_false, Option.some.injEq, canonL_N, canonL_E, canonL_encI, swapE, encE]; done) | (simp [go_sem, encN, encE, encI, tell_u, tell_bool, tell_int, tell_str, tell_nilp, tell_nilm, tell_nilI, tell_nilF, tell_agg, tell_tup, tell_ifc, tell_ds, tell_dp, tell_op, tell_os, tell_mp, idxOf_nil, idxOf_cons, tellS_nil, tellS_cons, tellO_cells, tellO_map, tellO_iter, tellO_dead, store_get0, store_getS, tell_canonL, tell_canon, canonL, AV.canon, Bool.or_true, Bool.or_false, Bool.and_true, Bool.and_false, Bool.not_true, Bool.not_false, Option.some.injEq, canonL_N, canonL_E, canonL_encI, swapE, encE]; done)), .inr (by first | rfl | (exact tell_enc (enc := encE) (sz := 2) (l := acc) (fun _ => rfl) rfl (Store.at_hd.trans (if_pos rfl)) rfl (canonL_E _ _) _ _) | (simp [go_sem, tell_u, tell_bool, tell_int, tell_str, tell_nilp, tell_nilm, tell_nilI, tell_nilF, tell_agg, tell_tup, tell_ifc, tell_ds, tell_dp, tell_op, tell_os, tell_mp, idxOf_nil, idxOf_cons, tellS_nil, tellS_cons, tellO_cells, tellO_map, tellO_iter, tellO_dead, store_get0, store_getS, tell_canonL, tell_canon, canonL, AV.canon, Bool.or_true, Bool.or_false, Bool.and_true, Bool.and_false, Bool.not_true, Bool.not_false, Option.some.injEq, canonL_N, canonL_E, canonL_encI, swapE, encE]; done) | (simp [go_sem, encN, encE, encI, tell_u, tell_bool, tell_int, tell_str, tell_nilp, tell_nilm, tell_nilI, tell_nilF, tell_agg, tell_tup, tell_ifc, tell_ds, tell_dp, tell_op, tell_os, tell_mp, idxOf_nil, idxOf_cons, tellS_nil, tellS_cons, tellO_cells, tellO_map, tellO_iter, tellO_dead, store_get0, store_getS, tell_canonL, tell_canon, canonL, AV.canon, Bool.or_true, Bool.or_false, Bool.and_true, Bool.and_false, Bool.not_true, Bool.not_false, Option.some.injEq, canonL_N, canonL_E, canonL_encI, swapE, encE]; done)), trivial⟩) ?_
        refine opsWp_callD rfl rfl rfl (plan_pc_ev ns acc hn (by omega) _) ?_
        rw [ht1]; rintro _ _ ⟨rfl, rfl⟩
        refine opsRunN tok 5 ?_
        simp only [go_sem, Nat.reduceLT, Nat.reduceLeDiff, Nat.reduceEqDiff, Nat.reduceAdd, Nat.reduceMul, Nat.reduceSub, reduceIte, reduceCtorEq, encE]
        refine opsWp_nil ?_
        refine hK _ _ (awp_keepM [true, true, false, false, false, true, false, true, true, true, true] ?_)
        clear hK K
        try simp only [go_sem, Nat.reduceLT, Nat.reduceLeDiff, Nat.reduceEqDiff, Nat.reduceAdd, Nat.reduceMul, Nat.reduceSub, reduceIte, reduceCtorEq]
        refine awp_seq_k fun K hK => ?_
        refine awp_region ?_
        refine opsRunN tok 4 ?_
        simp only [go_sem, Nat.reduceLT, Nat.reduceLeDiff, Nat.reduceEqDiff, Nat.reduceAdd, Nat.reduceMul, Nat.reduceSub, reduceIte, reduceCtorEq, encE]
        refine ops_if 69 rfl (fun hg69 => ?_) (fun hg69 => ?_)
        · skip
          refine opsRunN tok 2 ?_
          simp only [go_sem, Nat.reduceLT, Nat.reduceLeDiff, Nat.reduceEqDiff, Nat.reduceAdd, Nat.reduceMul, Nat.reduceSub, reduceIte, reduceCtorEq, encE]
          refine opsWp_callD rfl rfl rfl (same_pc_ev _ _ (by have := planS_len ns es; omega) (by have := planS_len ns es; omega) _) ?_
          rintro _ _ ⟨rfl, rfl⟩
          refine opsRunN tok 2 ?_
          simp only [go_sem, Nat.reduceLT, Nat.reduceLeDiff, Nat.reduceEqDiff, Nat.reduceAdd, Nat.reduceMul, Nat.reduceSub, reduceIte, reduceCtorEq, encE]
          refine ops_if 74 rfl (fun hg74 => ?_) (fun hg74 => ?_)
          · skip
            refine opsRunN tok 2 ?_
            simp only [go_sem, Nat.reduceLT, Nat.reduceLeDiff, Nat.reduceEqDiff, Nat.reduceAdd, Nat.reduceMul, Nat.reduceSub, reduceIte, reduceCtorEq, encE]
            refine opsWp_callD rfl rfl rfl (right_pc_ev _ _ (by first | assumption | omega | (simp; done)) (by first | assumption | omega | (simp; done)) _) ?_
            rintro _ _ ⟨rfl, rfl⟩
            refine opsRunN tok 2 ?_
            simp only [go_sem, Nat.reduceLT, Nat.reduceLeDiff, Nat.reduceEqDiff, Nat.reduceAdd, Nat.reduceMul, Nat.reduceSub, reduceIte, reduceCtorEq, encE]
            refine opsWp_callD rfl rfl rfl (right_pc_ev ns acc hn (by omega) _) ?_
            rw [ht2]; rintro _ _ ⟨rfl, rfl⟩
            refine opsRunN tok 3 ?_
            simp only [go_sem, Nat.reduceLT, Nat.reduceLeDiff, Nat.reduceEqDiff, Nat.reduceAdd, Nat.reduceMul, Nat.reduceSub, reduceIte, reduceCtorEq, encE, evEq, beq_self_eq_true, Option.map_some]
            refine ops_if 83 rfl (fun hg83 => ?_) (fun hg83 => ?_)
            · skip
              refine opsWp_callD rfl rfl rfl (awake_pc_ev _) ?_
              rintro _ _ ⟨rfl, rfl⟩
              refine opsRunN tok 2 ?_
              simp only [go_sem, Nat.reduceLT, Nat.reduceLeDiff, Nat.reduceEqDiff, Nat.reduceAdd, Nat.reduceMul, Nat.reduceSub, reduceIte, reduceCtorEq, encE]
              refine opsWp_nil ?_
              refine hK _ _ (awp_keepM [false, false, false, false, true] ?_)
              clear hK K
              try simp only [go_sem, Nat.reduceLT, Nat.reduceLeDiff, Nat.reduceEqDiff, Nat.reduceAdd, Nat.reduceMul, Nat.reduceSub, reduceIte, reduceCtorEq]
              refine awp_ret ?_
              simp only [retQ, resAll, resOne, resAV, exists_eq_left', go_sem, Nat.reduceLT, Nat.reduceLeDiff, Nat.reduceEqDiff, Nat.reduceAdd, Nat.reduceMul, Nat.reduceSub, reduceIte, reduceCtorEq, encE]
              first | rfl | (exfalso; simp_all; done)
            · skip
              exact absurd hg83 (by simp)
          · skip
            refine opsRunN tok 8 ?_
            simp only [go_sem, Nat.reduceLT, Nat.reduceLeDiff, Nat.reduceEqDiff, Nat.reduceAdd, Nat.reduceMul, Nat.reduceSub, reduceIte, reduceCtorEq, encE]
            refine opsRunN tok 4 ?_
            simp only [go_sem, Nat.reduceLT, Nat.reduceLeDiff, Nat.reduceEqDiff, Nat.reduceAdd, Nat.reduceMul, Nat.reduceSub, reduceIte, reduceCtorEq, encE]
            refine opsWp_nil ?_
            refine hK _ _ (awp_keepM [false, false, false, false, true] ?_)
            clear hK K
            try simp only [go_sem, Nat.reduceLT, Nat.reduceLeDiff, Nat.reduceEqDiff, Nat.reduceAdd, Nat.reduceMul, Nat.reduceSub, reduceIte, reduceCtorEq]
            refine awp_ret ?_
            simp only [retQ, resAll, resOne, resAV, exists_eq_left', go_sem, Nat.reduceLT, Nat.reduceLeDiff, Nat.reduceEqDiff, Nat.reduceAdd, Nat.reduceMul, Nat.reduceSub, reduceIte, reduceCtorEq, encE]
            first | rfl | (exfalso; simp_all; done)
        · skip
          refine opsRunN tok 8 ?_
          simp only [go_sem, Nat.reduceLT, Nat.reduceLeDiff, Nat.reduceEqDiff, Nat.reduceAdd, Nat.reduceMul, Nat.reduceSub, reduceIte, reduceCtorEq, encE]
          refine opsRunN tok 8 ?_
          simp only [go_sem, Nat.reduceLT, Nat.reduceLeDiff, Nat.reduceEqDiff, Nat.reduceAdd, Nat.reduceMul, Nat.reduceSub, reduceIte, reduceCtorEq, encE]
          refine opsRunN tok 1 ?_
          simp only [go_sem, Nat.reduceLT, Nat.reduceLeDiff, Nat.reduceEqDiff, Nat.reduceAdd, Nat.reduceMul, Nat.reduceSub, reduceIte, reduceCtorEq, encE]
          refine opsWp_nil ?_
          refine hK _ _ (awp_keepM [false, false, false, false, true] ?_)
          clear hK K
          try simp only [go_sem, Nat.reduceLT, Nat.reduceLeDiff, Nat.reduceEqDiff, Nat.reduceAdd, Nat.reduceMul, Nat.reduceSub, reduceIte, reduceCtorEq]
          refine awp_ret ?_
          simp only [retQ, resAll, resOne, resAV, exists_eq_left', go_sem, Nat.reduceLT, Nat.reduceLeDiff, Nat.reduceEqDiff, Nat.reduceAdd, Nat.reduceMul, Nat.reduceSub, reduceIte, reduceCtorEq, encE]
          first | rfl | (exfalso; simp_all; done)

theorem turns_pc_ev (ns : List Nd) (es : List Ed) (hn : ns.length < 9223372036854775808) (he : es.length < 9223372036854775808) (σ : Store) : ACalls Try.prog 11 [.ds true (ns.flatMap encN) ns.length false, .ds true (es.flatMap encE) es.length false] σ fun r σ' => r = .bool true ∧ σ' = σ :=
  (turns_pc ns es hn he).pureAt (by simp [AV.canon, canonL, canonL_N, canonL_E, canonL_encI, swapE, encE]) (by simp [AV.canon, canonL, canonL_N, canonL_E, canonL_encI, swapE, encE]) σ


end Go.Proofs.Ytplddidoobjcnaa
