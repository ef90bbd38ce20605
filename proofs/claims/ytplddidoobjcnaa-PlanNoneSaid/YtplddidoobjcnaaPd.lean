/- The planner's functions: what they compute (fourth part). -/
import Derived.Test.YtplddidoobjcnaaPc
set_option maxRecDepth 4000
set_option linter.unusedSimpArgs false
set_option linter.unusedVariables false
set_option linter.constructorNameAsVariable false
namespace Go.Proofs.Ytplddidoobjcnaa
open AM

theorem same_pc (a b : List Int) (ha : a.length < 9223372036854775808) (hb : b.length < 9223372036854775808) : ACalls Try.prog 36 [.ds true (a.flatMap encI) a.length false, .ds true (b.flatMap encI) b.length false] [] (fun r _ => r = .bool (decide (a = b))) := by
  refine acalls_pure (rs := [.tmp 4]) tok Try.func36 rfl Try.ntmps36 rfl Try.call36 (by simp) ?_
  refine reg tok [true, true] fun K hK => ?_
  simp only [go_sem, Nat.reduceLT, Nat.reduceLeDiff, Nat.reduceEqDiff, Nat.reduceAdd, Nat.reduceMul, Nat.reduceSub, reduceIte, reduceCtorEq, encI]
  refine hK _ _ ?_
  clear hK K
  refine awp_seq_k fun Z1 hZ1 => ?_
  refine reg tok [true, true, false, false, false, false, false, false, false, false, true] fun K hK => ?_
  simp only [go_sem, Nat.reduceLT, Nat.reduceLeDiff, Nat.reduceEqDiff, Nat.reduceAdd, Nat.reduceMul, Nat.reduceSub, reduceIte, reduceCtorEq, encI]
  refine hK _ _ ?_
  clear hK K
  refine awp_if rfl (fun hcc2 => ?_) (fun hcc2 => ?_)
  · skip
    refine reg tok [false, false, false, false, true] fun K hK => ?_
    simp only [go_sem, Nat.reduceLT, Nat.reduceLeDiff, Nat.reduceEqDiff, Nat.reduceAdd, Nat.reduceMul, Nat.reduceSub, reduceIte, reduceCtorEq, encI]
    refine hK _ _ ?_
    clear hK K
    refine awp_ret ?_
    simp only [retQ, resAll, resOne, resAV, exists_eq_left', go_sem, Nat.reduceLT, Nat.reduceLeDiff, Nat.reduceEqDiff, Nat.reduceAdd, Nat.reduceMul, Nat.reduceSub, reduceIte, reduceCtorEq, encI]
    have : a ≠ b := by rintro rfl; exact absurd rfl hcc2
    rw [tell_bool, decide_eq_false this]
  · skip
    refine awp_skip ?_
    refine hZ1 _ _ ?_
    refine awp_seq_k fun Z3 hZ3 => ?_
    refine reg tok [true, true, false, false, false, true] fun K hK => ?_
    simp only [go_sem, Nat.reduceLT, Nat.reduceLeDiff, Nat.reduceEqDiff, Nat.reduceAdd, Nat.reduceMul, Nat.reduceSub, reduceIte, reduceCtorEq, encI]
    refine hK _ _ ?_
    clear hK K
    refine awp_block ?_
    refine awp_loopT (fun m L τ => ∃ pre post q, m = post.length ∧ L = ([(.ds true (a.flatMap encI) a.length false), (.ds true (b.flatMap encI) b.length false), .u, .u, .u, (.int .i64 pre.length)] : List AV) ∧ τ = ([] : Store) ∧ a = pre ++ post ∧ b = pre ++ q ∧ q.length = post.length) _ ⟨[], a, b, rfl, rfl, rfl, ⟨rfl, rfl, by omega⟩⟩ ?_ ?_
    · exact Tells.mk' [] false 12 (by decide) (by simp) (by first | rfl | simp) (by first | rfl | simp [tell_u, tell_bool, tell_int, tell_str, tell_nilp, tell_nilm, tell_nilI, tell_nilF, tell_agg, tell_tup, tell_ifc, tell_ds, tell_dp, tell_op, tell_os, tell_mp, idxOf_nil, idxOf_cons, tellS_nil, tellS_cons, tellO_cells, tellO_map, tellO_iter, tellO_dead, store_get0, store_getS, tell_canonL, tell_canon, canonL, AV.canon, Bool.or_true, Bool.or_false, Bool.and_true, Bool.and_false, Bool.not_true, Bool.not_false, Option.some.injEq, canonL_encI, encI]) ⟨.inr (by first | exact tell_canon _ _ _ (.ds true (a.flatMap encI) a.length false) 12 (by simp [AV.canon, canonL, canonL_encI, encI]) | rfl), .inr (by first | exact tell_canon _ _ _ (.ds true (b.flatMap encI) b.length false) 12 (by simp [AV.canon, canonL, canonL_encI, encI]) | rfl), .inl rfl, .inl rfl, .inl rfl, .inr (by first | exact tell_canon _ _ _ (.int .i64 pre.length) 12 (by simp [AV.canon, canonL, canonL_encI, encI]) | rfl), trivial⟩
    rintro m L τ ⟨pre, post, q, rfl, rfl, rfl, hE, hb', hq⟩
    rcases post with _ | ⟨x, post⟩
    · have hzf4 := z_false hE
      refine awp_seq_k fun Z5 hZ5 => ?_
      refine reg tok [true, true, false, false, false, true, false, false, false, false, false, false, false, false, true] fun K hK => ?_
      simp only [go_sem, Nat.reduceLT, Nat.reduceLeDiff, Nat.reduceEqDiff, Nat.reduceAdd, Nat.reduceMul, Nat.reduceSub, reduceIte, reduceCtorEq, encI, hzf4]
      refine hK _ _ ?_
      clear hK K
      refine awp_cond_f rfl ?_
      refine awp_exit ?_
      refine hZ3 _ _ ?_
      refine reg tok [false, false, false, false, true] fun K hK => ?_
      simp only [go_sem, Nat.reduceLT, Nat.reduceLeDiff, Nat.reduceEqDiff, Nat.reduceAdd, Nat.reduceMul, Nat.reduceSub, reduceIte, reduceCtorEq, encI, hzf4]
      refine hK _ _ ?_
      clear hK K
      refine awp_ret ?_
      simp only [retQ, resAll, resOne, resAV, exists_eq_left', go_sem, Nat.reduceLT, Nat.reduceLeDiff, Nat.reduceEqDiff, Nat.reduceAdd, Nat.reduceMul, Nat.reduceSub, reduceIte, reduceCtorEq, encI]
      have e : a = pre := by simpa using hE
      have e2 : q = [] := List.length_eq_zero_iff.1 hq
      rw [tell_bool, decide_eq_true (by rw [e, hb', e2]; simp)]
    · have hzt4 := z_true hE
      have hzi4 := z_inc hE ha
      have hzx4 := fun nl tt q => encI_E.idxZ hE nl tt q
      have hzl4 := encI_E.load1Z rfl rfl hE
      rcases q with _ | ⟨y, q⟩
      · simp at hq
      have hy1 := fun nl tt k => encI_E.idxZ hb' nl tt k
      have hy2 := encI_E.load1Z rfl rfl hb'
      refine awp_seq_k fun Z7 hZ7 => ?_
      refine reg tok [true, true, false, false, false, true, false, false, false, false, false, false, false, false, true] fun K hK => ?_
      simp only [go_sem, Nat.reduceLT, Nat.reduceLeDiff, Nat.reduceEqDiff, Nat.reduceAdd, Nat.reduceMul, Nat.reduceSub, reduceIte, reduceCtorEq, encI, hzt4, hzi4, hzx4, hzl4]
      refine hK _ _ ?_
      clear hK K
      refine awp_cond_t rfl ?_
      refine awp_skip ?_
      refine hZ7 _ _ ?_
      refine awp_seq_k fun Z9 hZ9 => ?_
      refine awp_block ?_
      refine awp_seq_k fun K hK => ?_
      refine DW.start (T := tab) [.any, .any, .any, .at [], .any, .any, .any, .at [], .any] [] ?_
      refine DW.runN tok 8 ?_
      simp only [go_sem, Nat.reduceLT, Nat.reduceLeDiff, Nat.reduceEqDiff, Nat.reduceAdd, Nat.reduceMul, Nat.reduceSub, reduceIte, reduceCtorEq, encI, hzt4, hzi4, hzx4, hzl4, hy1, hy2]
      refine DW.runN tok 1 ?_
      simp only [go_sem, Nat.reduceLT, Nat.reduceLeDiff, Nat.reduceEqDiff, Nat.reduceAdd, Nat.reduceMul, Nat.reduceSub, reduceIte, reduceCtorEq, encI, hzt4, hzi4, hzx4, hzl4, hy1, hy2]
      refine DW.fin tok (by decide +kernel) rfl ?_
      refine hK _ _ (awp_keepM [true, true, false, false, false, true, false, false, false, false, false, false, false, false, false, false, false, false, false, false, false, false, false, false, false, true] ?_)
      clear hK K
      try simp only [go_sem, Nat.reduceLT, Nat.reduceLeDiff, Nat.reduceEqDiff, Nat.reduceAdd, Nat.reduceMul, Nat.reduceSub, reduceIte, reduceCtorEq]
      refine awp_if rfl (fun hcc10 => ?_) (fun hcc10 => ?_)
      · skip
        refine reg tok [false, false, false, false, true] fun K hK => ?_
        simp only [go_sem, Nat.reduceLT, Nat.reduceLeDiff, Nat.reduceEqDiff, Nat.reduceAdd, Nat.reduceMul, Nat.reduceSub, reduceIte, reduceCtorEq, encI, hzt4, hzi4, hzx4, hzl4]
        refine hK _ _ ?_
        clear hK K
        refine awp_ret ?_
        simp only [retQ, resAll, resOne, resAV, exists_eq_left', go_sem, Nat.reduceLT, Nat.reduceLeDiff, Nat.reduceEqDiff, Nat.reduceAdd, Nat.reduceMul, Nat.reduceSub, reduceIte, reduceCtorEq, encI]
        have : a ≠ b := by
          rw [hE, hb']
          intro h
          have := List.append_cancel_left h
          simp only [List.cons.injEq] at this
          exact hcc10 this.1
        rw [tell_bool, decide_eq_false this]
      · skip
        refine awp_skip ?_
        refine hZ9 _ _ ?_
        refine regEnd tok ?_
        simp only [go_sem, Nat.reduceLT, Nat.reduceLeDiff, Nat.reduceEqDiff, Nat.reduceAdd, Nat.reduceMul, Nat.reduceSub, reduceIte, reduceCtorEq, encI, hzt4, hzi4, hzx4, hzl4]
        refine ⟨_, _, _, ?_, ⟨pre ++ [x], post, q, rfl, rfl, rfl, ?_⟩, ?_⟩
        · simp
        · exact ⟨by simpa using hE, by simpa [hcc10] using hb', by simpa using hq⟩
        · exact Tells.mk' [] false 12 (by decide) (by simp) (by first | rfl | simp) (by first | rfl | simp [tell_u, tell_bool, tell_int, tell_str, tell_nilp, tell_nilm, tell_nilI, tell_nilF, tell_agg, tell_tup, tell_ifc, tell_ds, tell_dp, tell_op, tell_os, tell_mp, idxOf_nil, idxOf_cons, tellS_nil, tellS_cons, tellO_cells, tellO_map, tellO_iter, tellO_dead, store_get0, store_getS, tell_canonL, tell_canon, canonL, AV.canon, Bool.or_true, Bool.or_false, Bool.and_true, Bool.and_false, Bool.not_true, Bool.not_false, Option.some.injEq, canonL_encI, encI]) ⟨.inr (by first | exact tell_canon _ _ _ (.ds true (a.flatMap encI) a.length false) 12 (by simp [AV.canon, canonL, canonL_encI, encI]) | rfl), .inr (by first | exact tell_canon _ _ _ (.ds true (b.flatMap encI) b.length false) 12 (by simp [AV.canon, canonL, canonL_encI, encI]) | rfl), .inl rfl, .inl rfl, .inl rfl, .inr (by first | exact tell_canon _ _ _ (.int .i64 pre.length) 12 (by simp [AV.canon, canonL, canonL_encI, encI]) | rfl), trivial⟩

theorem same_pc_ev (a b : List Int) (ha : a.length < 9223372036854775808) (hb : b.length < 9223372036854775808) (σ : Store) : ACalls Try.prog 36 [.ds true (a.flatMap encI) a.length false, .ds true (b.flatMap encI) b.length false] σ fun r σ' => r = .bool (decide (a = b)) ∧ σ' = σ :=
  (same_pc a b ha hb).pureAt (by simp [AV.canon, canonL, canonL_encI, encI]) (by simp [AV.canon, canonL, canonL_encI, encI]) σ


def okC (a b : Nd) (v : Int) : Bool := ((decide (v ≤ a.v) && decide (a.v - a.b ≤ v)) && decide (v ≤ b.v)) && decide (b.v - b.b ≤ v)

def anyC (a b : Nd) : Nat → Int → Bool
  | 0, _ => false
  | k + 1, v => okC a b v || anyC a b k (v + 1)

theorem common_pc (a b : Nd) (h1 : 0 ≤ a.v ∧ a.v ≤ 100 ∧ 0 ≤ a.b ∧ a.b ≤ 100) (h2 : 0 ≤ b.v ∧ b.v ≤ 100 ∧ 0 ≤ b.b ∧ b.b ≤ 100) : ACalls Try.prog 35 [.agg (encN a), .agg (encN b)] [] (fun r _ => r = .bool (anyC a b 12 1)) := by
  refine acalls_pure (rs := [.tmp 4]) tok Try.func35 rfl Try.ntmps35 rfl Try.call35 (by simp) ?_
  have w1 : IntKind.i64.wrap (a.v - a.b) = a.v - a.b := i64_in (by omega) (by omega)
  have w2 : IntKind.i64.wrap (b.v - b.b) = b.v - b.b := i64_in (by omega) (by omega)
  refine reg tok [false, false, true, true] fun K hK => ?_
  simp only [go_sem, Nat.reduceLT, Nat.reduceLeDiff, Nat.reduceEqDiff, Nat.reduceAdd, Nat.reduceMul, Nat.reduceSub, reduceIte, reduceCtorEq, encN, w1, w2]
  refine hK _ _ ?_
  clear hK K
  refine awp_seq_k fun Z1 hZ1 => ?_
  refine reg tok [false, false, true, true, false, true] fun K hK => ?_
  simp only [go_sem, Nat.reduceLT, Nat.reduceLeDiff, Nat.reduceEqDiff, Nat.reduceAdd, Nat.reduceMul, Nat.reduceSub, reduceIte, reduceCtorEq, encN, w1, w2]
  refine hK _ _ ?_
  clear hK K
  refine awp_block ?_
  refine awp_loopT (fun m L τ => ∃ (k : Nat) (v : Int), m = 0 + k ∧ L = ([.u, .u, (.op 0 0 0), (.op 1 0 0), .u, (.int .i64 v)] : List AV) ∧ τ = ([.cells 0 (encN a), .cells 0 (encN b)] : Store) ∧ v + k = 13 ∧ 1 ≤ v ∧ anyC a b 12 1 = anyC a b k v) _ ⟨12, 1, rfl, rfl, rfl, by simp⟩ ?_ ?_
  · exact Tells.mk' [0, 1] false 12 (by decide) (by simp) (by first | rfl | simp) (by first | rfl | simp [tell_u, tell_bool, tell_int, tell_str, tell_nilp, tell_nilm, tell_nilI, tell_nilF, tell_agg, tell_tup, tell_ifc, tell_ds, tell_dp, tell_op, tell_os, tell_mp, idxOf_nil, idxOf_cons, tellS_nil, tellS_cons, tellO_cells, tellO_map, tellO_iter, tellO_dead, store_get0, store_getS, tell_canonL, tell_canon, canonL, AV.canon, Bool.or_true, Bool.or_false, Bool.and_true, Bool.and_false, Bool.not_true, Bool.not_false, Option.some.injEq, encN]) ⟨.inl rfl, .inl rfl, .inr (by first | rfl | simp [tell_u, tell_bool, tell_int, tell_str, tell_nilp, tell_nilm, tell_nilI, tell_nilF, tell_agg, tell_tup, tell_ifc, tell_ds, tell_dp, tell_op, tell_os, tell_mp, idxOf_nil, idxOf_cons, tellS_nil, tellS_cons, tellO_cells, tellO_map, tellO_iter, tellO_dead, store_get0, store_getS, tell_canonL, tell_canon, canonL, AV.canon, Bool.or_true, Bool.or_false, Bool.and_true, Bool.and_false, Bool.not_true, Bool.not_false, Option.some.injEq]), .inr (by first | rfl | simp [tell_u, tell_bool, tell_int, tell_str, tell_nilp, tell_nilm, tell_nilI, tell_nilF, tell_agg, tell_tup, tell_ifc, tell_ds, tell_dp, tell_op, tell_os, tell_mp, idxOf_nil, idxOf_cons, tellS_nil, tellS_cons, tellO_cells, tellO_map, tellO_iter, tellO_dead, store_get0, store_getS, tell_canonL, tell_canon, canonL, AV.canon, Bool.or_true, Bool.or_false, Bool.and_true, Bool.and_false, Bool.not_true, Bool.not_false, Option.some.injEq]), .inl rfl, .inr (by first | exact tell_canon _ _ _ (.int .i64 v) 12 (by simp [AV.canon, canonL, encN]) | rfl), trivial⟩
  rintro m L τ ⟨k, v, rfl, rfl, rfl, hk, hv, hI⟩
  refine awp_seq_k fun Z2 hZ2 => ?_
  refine reg tok [false, false, true, true, false, true, false, true] fun K hK => ?_
  simp only [go_sem, Nat.reduceLT, Nat.reduceLeDiff, Nat.reduceEqDiff, Nat.reduceAdd, Nat.reduceMul, Nat.reduceSub, reduceIte, reduceCtorEq, encN, w1, w2]
  refine hK _ _ ?_
  clear hK K
  refine awp_if rfl (fun hcc3 => ?_) (fun hcc3 => ?_)
  · skip
    obtain ⟨k, rfl⟩ : ∃ k', k = k' + 1 := ⟨k - 1, by omega⟩
    have w3 : IntKind.i64.wrap (v + 1) = v + 1 := i64_in (by omega) (by omega)
    refine awp_skip ?_
    refine hZ2 _ _ ?_
    refine awp_seq_k fun Z4 hZ4 => ?_
    refine awp_block ?_
    refine awp_seq_k fun K hK => ?_
    refine awp_region ?_
    refine opsRunN tok 5 ?_
    simp only [go_sem, Nat.reduceLT, Nat.reduceLeDiff, Nat.reduceEqDiff, Nat.reduceAdd, Nat.reduceMul, Nat.reduceSub, reduceIte, reduceCtorEq, encN, w1, w2, w3]
    refine ops_if 14 rfl (fun hg14 => ?_) (fun hg14 => ?_)
    · skip
      refine opsRunN tok 8 ?_
      simp only [go_sem, Nat.reduceLT, Nat.reduceLeDiff, Nat.reduceEqDiff, Nat.reduceAdd, Nat.reduceMul, Nat.reduceSub, reduceIte, reduceCtorEq, encN, w1, w2, w3]
      refine opsRunN tok 1 ?_
      simp only [go_sem, Nat.reduceLT, Nat.reduceLeDiff, Nat.reduceEqDiff, Nat.reduceAdd, Nat.reduceMul, Nat.reduceSub, reduceIte, reduceCtorEq, encN, w1, w2, w3]
      refine ops_if 23 rfl (fun hg23 => ?_) (fun hg23 => ?_)
      · skip
        refine opsRunN tok 6 ?_
        simp only [go_sem, Nat.reduceLT, Nat.reduceLeDiff, Nat.reduceEqDiff, Nat.reduceAdd, Nat.reduceMul, Nat.reduceSub, reduceIte, reduceCtorEq, encN, w1, w2, w3]
        refine ops_if 29 rfl (fun hg29 => ?_) (fun hg29 => ?_)
        · skip
          refine opsRunN tok 8 ?_
          simp only [go_sem, Nat.reduceLT, Nat.reduceLeDiff, Nat.reduceEqDiff, Nat.reduceAdd, Nat.reduceMul, Nat.reduceSub, reduceIte, reduceCtorEq, encN, w1, w2, w3]
          refine opsWp_nil ?_
          refine hK _ _ (awp_keepM [false, false, true, true, false, true, false, false, false, false, false, false, false, false, false, false, false, false, false, false, false, false, false, false, false, false, false, false, false, false, false, false, false, false, false, false, false, true] ?_)
          clear hK K
          try simp only [go_sem, Nat.reduceLT, Nat.reduceLeDiff, Nat.reduceEqDiff, Nat.reduceAdd, Nat.reduceMul, Nat.reduceSub, reduceIte, reduceCtorEq]
          refine awp_if rfl (fun hcc5 => ?_) (fun hcc5 => ?_)
          · skip
            refine reg tok [false, false, false, false, true] fun K hK => ?_
            simp only [go_sem, Nat.reduceLT, Nat.reduceLeDiff, Nat.reduceEqDiff, Nat.reduceAdd, Nat.reduceMul, Nat.reduceSub, reduceIte, reduceCtorEq, encN, w1, w2, w3]
            refine hK _ _ ?_
            clear hK K
            refine awp_ret ?_
            simp only [retQ, resAll, resOne, resAV, exists_eq_left', go_sem, Nat.reduceLT, Nat.reduceLeDiff, Nat.reduceEqDiff, Nat.reduceAdd, Nat.reduceMul, Nat.reduceSub, reduceIte, reduceCtorEq, encN]
            rw [tell_bool, hI, anyC]; simp [okC, hg14, hg23, hg29, hcc5]
          · skip
            refine awp_skip ?_
            refine hZ4 _ _ ?_
            refine regEnd tok ?_
            simp only [go_sem, Nat.reduceLT, Nat.reduceLeDiff, Nat.reduceEqDiff, Nat.reduceAdd, Nat.reduceMul, Nat.reduceSub, reduceIte, reduceCtorEq, encN, w1, w2, w3]
            refine ⟨_, _, _, ?_, ⟨k, v + 1, rfl, rfl, rfl, ?_⟩, ?_⟩
            · simp
            · refine ⟨by omega, by omega, ?_⟩; rw [hI, anyC]; first | simp [okC, hg14]; done | simp [okC, hg23]; done | simp [okC, hg29]; done | simp [okC, hcc5]
            · exact Tells.mk' [0, 1] false 12 (by decide) (by simp) (by first | rfl | simp) (by first | rfl | simp [tell_u, tell_bool, tell_int, tell_str, tell_nilp, tell_nilm, tell_nilI, tell_nilF, tell_agg, tell_tup, tell_ifc, tell_ds, tell_dp, tell_op, tell_os, tell_mp, idxOf_nil, idxOf_cons, tellS_nil, tellS_cons, tellO_cells, tellO_map, tellO_iter, tellO_dead, store_get0, store_getS, tell_canonL, tell_canon, canonL, AV.canon, Bool.or_true, Bool.or_false, Bool.and_true, Bool.and_false, Bool.not_true, Bool.not_false, Option.some.injEq, encN]) ⟨.inl rfl, .inl rfl, .inr (by first | rfl | simp [tell_u, tell_bool, tell_int, tell_str, tell_nilp, tell_nilm, tell_nilI, tell_nilF, tell_agg, tell_tup, tell_ifc, tell_ds, tell_dp, tell_op, tell_os, tell_mp, idxOf_nil, idxOf_cons, tellS_nil, tellS_cons, tellO_cells, tellO_map, tellO_iter, tellO_dead, store_get0, store_getS, tell_canonL, tell_canon, canonL, AV.canon, Bool.or_true, Bool.or_false, Bool.and_true, Bool.and_false, Bool.not_true, Bool.not_false, Option.some.injEq]), .inr (by first | rfl | simp [tell_u, tell_bool, tell_int, tell_str, tell_nilp, tell_nilm, tell_nilI, tell_nilF, tell_agg, tell_tup, tell_ifc, tell_ds, tell_dp, tell_op, tell_os, tell_mp, idxOf_nil, idxOf_cons, tellS_nil, tellS_cons, tellO_cells, tellO_map, tellO_iter, tellO_dead, store_get0, store_getS, tell_canonL, tell_canon, canonL, AV.canon, Bool.or_true, Bool.or_false, Bool.and_true, Bool.and_false, Bool.not_true, Bool.not_false, Option.some.injEq]), .inl rfl, .inr (by first | exact tell_canon _ _ _ (.int .i64 v) 12 (by simp [AV.canon, canonL, encN]) | rfl), trivial⟩
        · skip
          refine opsRunN tok 8 ?_
          simp only [go_sem, Nat.reduceLT, Nat.reduceLeDiff, Nat.reduceEqDiff, Nat.reduceAdd, Nat.reduceMul, Nat.reduceSub, reduceIte, reduceCtorEq, encN, w1, w2, w3]
          refine opsWp_nil ?_
          refine hK _ _ (awp_keepM [false, false, true, true, false, true, false, false, false, false, false, false, false, false, false, false, false, false, false, false, false, false, false, false, false, false, false, false, false, false, false, false, false, false, false, false, false, true] ?_)
          clear hK K
          try simp only [go_sem, Nat.reduceLT, Nat.reduceLeDiff, Nat.reduceEqDiff, Nat.reduceAdd, Nat.reduceMul, Nat.reduceSub, reduceIte, reduceCtorEq]
          refine awp_cond_f rfl ?_
          refine awp_skip ?_
          refine hZ4 _ _ ?_
          refine regEnd tok ?_
          simp only [go_sem, Nat.reduceLT, Nat.reduceLeDiff, Nat.reduceEqDiff, Nat.reduceAdd, Nat.reduceMul, Nat.reduceSub, reduceIte, reduceCtorEq, encN, w1, w2, w3]
          refine ⟨_, _, _, ?_, ⟨k, v + 1, rfl, rfl, rfl, ?_⟩, ?_⟩
          · simp
          · refine ⟨by omega, by omega, ?_⟩; rw [hI, anyC]; first | simp [okC, hg14]; done | simp [okC, hg23]; done | simp [okC, hg29]; done | simp [okC, hcc5]
          · exact Tells.mk' [0, 1] false 12 (by decide) (by simp) (by first | rfl | simp) (by first | rfl | simp [tell_u, tell_bool, tell_int, tell_str, tell_nilp, tell_nilm, tell_nilI, tell_nilF, tell_agg, tell_tup, tell_ifc, tell_ds, tell_dp, tell_op, tell_os, tell_mp, idxOf_nil, idxOf_cons, tellS_nil, tellS_cons, tellO_cells, tellO_map, tellO_iter, tellO_dead, store_get0, store_getS, tell_canonL, tell_canon, canonL, AV.canon, Bool.or_true, Bool.or_false, Bool.and_true, Bool.and_false, Bool.not_true, Bool.not_false, Option.some.injEq, encN]) ⟨.inl rfl, .inl rfl, .inr (by first | rfl | simp [tell_u, tell_bool, tell_int, tell_str, tell_nilp, tell_nilm, tell_nilI, tell_nilF, tell_agg, tell_tup, tell_ifc, tell_ds, tell_dp, tell_op, tell_os, tell_mp, idxOf_nil, idxOf_cons, tellS_nil, tellS_cons, tellO_cells, tellO_map, tellO_iter, tellO_dead, store_get0, store_getS, tell_canonL, tell_canon, canonL, AV.canon, Bool.or_true, Bool.or_false, Bool.and_true, Bool.and_false, Bool.not_true, Bool.not_false, Option.some.injEq]), .inr (by first | rfl | simp [tell_u, tell_bool, tell_int, tell_str, tell_nilp, tell_nilm, tell_nilI, tell_nilF, tell_agg, tell_tup, tell_ifc, tell_ds, tell_dp, tell_op, tell_os, tell_mp, idxOf_nil, idxOf_cons, tellS_nil, tellS_cons, tellO_cells, tellO_map, tellO_iter, tellO_dead, store_get0, store_getS, tell_canonL, tell_canon, canonL, AV.canon, Bool.or_true, Bool.or_false, Bool.and_true, Bool.and_false, Bool.not_true, Bool.not_false, Option.some.injEq]), .inl rfl, .inr (by first | exact tell_canon _ _ _ (.int .i64 v) 12 (by simp [AV.canon, canonL, encN]) | rfl), trivial⟩
      · skip
        refine opsRunN tok 8 ?_
        simp only [go_sem, Nat.reduceLT, Nat.reduceLeDiff, Nat.reduceEqDiff, Nat.reduceAdd, Nat.reduceMul, Nat.reduceSub, reduceIte, reduceCtorEq, encN, w1, w2, w3]
        refine opsRunN tok 6 ?_
        simp only [go_sem, Nat.reduceLT, Nat.reduceLeDiff, Nat.reduceEqDiff, Nat.reduceAdd, Nat.reduceMul, Nat.reduceSub, reduceIte, reduceCtorEq, encN, w1, w2, w3]
        refine opsWp_nil ?_
        refine hK _ _ (awp_keepM [false, false, true, true, false, true, false, false, false, false, false, false, false, false, false, false, false, false, false, false, false, false, false, false, false, false, false, false, false, false, false, false, false, false, false, false, false, true] ?_)
        clear hK K
        try simp only [go_sem, Nat.reduceLT, Nat.reduceLeDiff, Nat.reduceEqDiff, Nat.reduceAdd, Nat.reduceMul, Nat.reduceSub, reduceIte, reduceCtorEq]
        refine awp_cond_f rfl ?_
        refine awp_skip ?_
        refine hZ4 _ _ ?_
        refine regEnd tok ?_
        simp only [go_sem, Nat.reduceLT, Nat.reduceLeDiff, Nat.reduceEqDiff, Nat.reduceAdd, Nat.reduceMul, Nat.reduceSub, reduceIte, reduceCtorEq, encN, w1, w2, w3]
        refine ⟨_, _, _, ?_, ⟨k, v + 1, rfl, rfl, rfl, ?_⟩, ?_⟩
        · simp
        · refine ⟨by omega, by omega, ?_⟩; rw [hI, anyC]; first | simp [okC, hg14]; done | simp [okC, hg23]; done | simp [okC, hg29]; done | simp [okC, hcc5]
        · exact Tells.mk' [0, 1] false 12 (by decide) (by simp) (by first | rfl | simp) (by first | rfl | simp [tell_u, tell_bool, tell_int, tell_str, tell_nilp, tell_nilm, tell_nilI, tell_nilF, tell_agg, tell_tup, tell_ifc, tell_ds, tell_dp, tell_op, tell_os, tell_mp, idxOf_nil, idxOf_cons, tellS_nil, tellS_cons, tellO_cells, tellO_map, tellO_iter, tellO_dead, store_get0, store_getS, tell_canonL, tell_canon, canonL, AV.canon, Bool.or_true, Bool.or_false, Bool.and_true, Bool.and_false, Bool.not_true, Bool.not_false, Option.some.injEq, encN]) ⟨.inl rfl, .inl rfl, .inr (by first | rfl | simp [tell_u, tell_bool, tell_int, tell_str, tell_nilp, tell_nilm, tell_nilI, tell_nilF, tell_agg, tell_tup, tell_ifc, tell_ds, tell_dp, tell_op, tell_os, tell_mp, idxOf_nil, idxOf_cons, tellS_nil, tellS_cons, tellO_cells, tellO_map, tellO_iter, tellO_dead, store_get0, store_getS, tell_canonL, tell_canon, canonL, AV.canon, Bool.or_true, Bool.or_false, Bool.and_true, Bool.and_false, Bool.not_true, Bool.not_false, Option.some.injEq]), .inr (by first | rfl | simp [tell_u, tell_bool, tell_int, tell_str, tell_nilp, tell_nilm, tell_nilI, tell_nilF, tell_agg, tell_tup, tell_ifc, tell_ds, tell_dp, tell_op, tell_os, tell_mp, idxOf_nil, idxOf_cons, tellS_nil, tellS_cons, tellO_cells, tellO_map, tellO_iter, tellO_dead, store_get0, store_getS, tell_canonL, tell_canon, canonL, AV.canon, Bool.or_true, Bool.or_false, Bool.and_true, Bool.and_false, Bool.not_true, Bool.not_false, Option.some.injEq]), .inl rfl, .inr (by first | exact tell_canon _ _ _ (.int .i64 v) 12 (by simp [AV.canon, canonL, encN]) | rfl), trivial⟩
    · skip
      refine opsRunN tok 8 ?_
      simp only [go_sem, Nat.reduceLT, Nat.reduceLeDiff, Nat.reduceEqDiff, Nat.reduceAdd, Nat.reduceMul, Nat.reduceSub, reduceIte, reduceCtorEq, encN, w1, w2, w3]
      refine opsRunN tok 8 ?_
      simp only [go_sem, Nat.reduceLT, Nat.reduceLeDiff, Nat.reduceEqDiff, Nat.reduceAdd, Nat.reduceMul, Nat.reduceSub, reduceIte, reduceCtorEq, encN, w1, w2, w3]
      refine opsRunN tok 7 ?_
      simp only [go_sem, Nat.reduceLT, Nat.reduceLeDiff, Nat.reduceEqDiff, Nat.reduceAdd, Nat.reduceMul, Nat.reduceSub, reduceIte, reduceCtorEq, encN, w1, w2, w3]
      refine opsWp_nil ?_
      refine hK _ _ (awp_keepM [false, false, true, true, false, true, false, false, false, false, false, false, false, false, false, false, false, false, false, false, false, false, false, false, false, false, false, false, false, false, false, false, false, false, false, false, false, true] ?_)
      clear hK K
      try simp only [go_sem, Nat.reduceLT, Nat.reduceLeDiff, Nat.reduceEqDiff, Nat.reduceAdd, Nat.reduceMul, Nat.reduceSub, reduceIte, reduceCtorEq]
      refine awp_cond_f rfl ?_
      refine awp_skip ?_
      refine hZ4 _ _ ?_
      refine regEnd tok ?_
      simp only [go_sem, Nat.reduceLT, Nat.reduceLeDiff, Nat.reduceEqDiff, Nat.reduceAdd, Nat.reduceMul, Nat.reduceSub, reduceIte, reduceCtorEq, encN, w1, w2, w3]
      refine ⟨_, _, _, ?_, ⟨k, v + 1, rfl, rfl, rfl, ?_⟩, ?_⟩
      · simp
      · refine ⟨by omega, by omega, ?_⟩; rw [hI, anyC]; first | simp [okC, hg14]; done | simp [okC, hg23]; done | simp [okC, hg29]; done | simp [okC, hcc5]
      · exact Tells.mk' [0, 1] false 12 (by decide) (by simp) (by first | rfl | simp) (by first | rfl | simp [tell_u, tell_bool, tell_int, tell_str, tell_nilp, tell_nilm, tell_nilI, tell_nilF, tell_agg, tell_tup, tell_ifc, tell_ds, tell_dp, tell_op, tell_os, tell_mp, idxOf_nil, idxOf_cons, tellS_nil, tellS_cons, tellO_cells, tellO_map, tellO_iter, tellO_dead, store_get0, store_getS, tell_canonL, tell_canon, canonL, AV.canon, Bool.or_true, Bool.or_false, Bool.and_true, Bool.and_false, Bool.not_true, Bool.not_false, Option.some.injEq, encN]) ⟨.inl rfl, .inl rfl, .inr (by first | rfl | simp [tell_u, tell_bool, tell_int, tell_str, tell_nilp, tell_nilm, tell_nilI, tell_nilF, tell_agg, tell_tup, tell_ifc, tell_ds, tell_dp, tell_op, tell_os, tell_mp, idxOf_nil, idxOf_cons, tellS_nil, tellS_cons, tellO_cells, tellO_map, tellO_iter, tellO_dead, store_get0, store_getS, tell_canonL, tell_canon, canonL, AV.canon, Bool.or_true, Bool.or_false, Bool.and_true, Bool.and_false, Bool.not_true, Bool.not_false, Option.some.injEq]), .inr (by first | rfl | simp [tell_u, tell_bool, tell_int, tell_str, tell_nilp, tell_nilm, tell_nilI, tell_nilF, tell_agg, tell_tup, tell_ifc, tell_ds, tell_dp, tell_op, tell_os, tell_mp, idxOf_nil, idxOf_cons, tellS_nil, tellS_cons, tellO_cells, tellO_map, tellO_iter, tellO_dead, store_get0, store_getS, tell_canonL, tell_canon, canonL, AV.canon, Bool.or_true, Bool.or_false, Bool.and_true, Bool.and_false, Bool.not_true, Bool.not_false, Option.some.injEq]), .inl rfl, .inr (by first | exact tell_canon _ _ _ (.int .i64 v) 12 (by simp [AV.canon, canonL, encN]) | rfl), trivial⟩
  · skip
    refine awp_exit ?_
    refine hZ1 _ _ ?_
    refine reg tok [false, false, false, false, true] fun K hK => ?_
    simp only [go_sem, Nat.reduceLT, Nat.reduceLeDiff, Nat.reduceEqDiff, Nat.reduceAdd, Nat.reduceMul, Nat.reduceSub, reduceIte, reduceCtorEq, encN, w1, w2]
    refine hK _ _ ?_
    clear hK K
    refine awp_ret ?_
    simp only [retQ, resAll, resOne, resAV, exists_eq_left', go_sem, Nat.reduceLT, Nat.reduceLeDiff, Nat.reduceEqDiff, Nat.reduceAdd, Nat.reduceMul, Nat.reduceSub, reduceIte, reduceCtorEq, encN]
    obtain rfl : k = 0 := by omega
    rw [tell_bool, hI, anyC]

theorem common_pc_ev (a b : Nd) (h1 : 0 ≤ a.v ∧ a.v ≤ 100 ∧ 0 ≤ a.b ∧ a.b ≤ 100) (h2 : 0 ≤ b.v ∧ b.v ≤ 100 ∧ 0 ≤ b.b ∧ b.b ≤ 100) (σ : Store) : ACalls Try.prog 35 [.agg (encN a), .agg (encN b)] σ fun r σ' => r = .bool (anyC a b 12 1) ∧ σ' = σ :=
  (common_pc a b h1 h2).pureAt (by simp [AV.canon, canonL, encN]) (by simp [AV.canon, canonL, encN]) σ


end Go.Proofs.Ytplddidoobjcnaa
