/- PlanSafe: what its function answers. -/
import Derived.Test.YtplddidoobjcnaaPi
set_option maxRecDepth 4000
set_option maxHeartbeats 2000000
set_option linter.unusedSimpArgs false
set_option linter.unusedVariables false
set_option linter.constructorNameAsVariable false
namespace Go.Proofs.Ytplddidoobjcnaa
open AM

theorem safe_pc (ns : List Nd) (es : List Ed) (hn : ns.length < 9223372036854775808) (he : es.length < 9223372036854775808) : ACalls Try.prog 7 [.ds true (ns.flatMap encN) ns.length false, .ds true (es.flatMap encE) es.length false] [] (fun r _ => r = .bool true) := by
  refine acalls_pure (rs := [.tmp 4]) tok Try.func7 rfl Try.ntmps7 rfl Try.call7 (by simp) ?_
  refine reg tok [true, true] fun K hK => ?_
  simp only [go_sem, Nat.reduceLT, Nat.reduceLeDiff, Nat.reduceEqDiff, Nat.reduceAdd, Nat.reduceMul, Nat.reduceSub, reduceIte, reduceCtorEq, encE]
  refine hK _ _ ?_
  clear hK K
  refine awp_seq_k fun Z1 hZ1 => ?_
  refine awp_seq_k fun K hK => ?_
  refine awp_region ?_
  refine opsRunN tok 4 ?_
  simp only [go_sem, Nat.reduceLT, Nat.reduceLeDiff, Nat.reduceEqDiff, Nat.reduceAdd, Nat.reduceMul, Nat.reduceSub, reduceIte, reduceCtorEq, encE]
  refine ops_if 16 rfl (fun hg16 => ?_) (fun hg16 => ?_)
  · skip
    refine opsRunN tok 4 ?_
    simp only [go_sem, Nat.reduceLT, Nat.reduceLeDiff, Nat.reduceEqDiff, Nat.reduceAdd, Nat.reduceMul, Nat.reduceSub, reduceIte, reduceCtorEq, encE]
    refine opsWp_nil ?_
    refine hK _ _ (awp_keepM [true, true, false, false, false, false, false, false, false, false, false, false, false, false, false, false, false, false, false, false, true] ?_)
    clear hK K
    try simp only [go_sem, Nat.reduceLT, Nat.reduceLeDiff, Nat.reduceEqDiff, Nat.reduceAdd, Nat.reduceMul, Nat.reduceSub, reduceIte, reduceCtorEq]
    refine awp_cond_t rfl ?_
    refine awp_seq_k fun K hK => ?_
    refine awp_region ?_
    refine opsWp_callD rfl rfl rfl (awake_pc_ev _) ?_
    rintro _ _ ⟨rfl, rfl⟩
    refine opsRunN tok 1 ?_
    simp only [go_sem, Nat.reduceLT, Nat.reduceLeDiff, Nat.reduceEqDiff, Nat.reduceAdd, Nat.reduceMul, Nat.reduceSub, reduceIte, reduceCtorEq, encE]
    refine opsWp_nil ?_
    refine hK _ _ (awp_keepM [false, false, false, false, true] ?_)
    clear hK K
    try simp only [go_sem, Nat.reduceLT, Nat.reduceLeDiff, Nat.reduceEqDiff, Nat.reduceAdd, Nat.reduceMul, Nat.reduceSub, reduceIte, reduceCtorEq]
    refine awp_ret ?_
    simp only [retQ, resAll, resOne, resAV, exists_eq_left', go_sem, Nat.reduceLT, Nat.reduceLeDiff, Nat.reduceEqDiff, Nat.reduceAdd, Nat.reduceMul, Nat.reduceSub, reduceIte, reduceCtorEq, encE]
    first | rfl
  · skip
    refine opsRunN tok 4 ?_
    simp only [go_sem, Nat.reduceLT, Nat.reduceLeDiff, Nat.reduceEqDiff, Nat.reduceAdd, Nat.reduceMul, Nat.reduceSub, reduceIte, reduceCtorEq, encE]
    refine opsWp_nil ?_
    refine hK _ _ (awp_keepM [true, true, false, false, false, false, false, false, false, false, false, false, false, false, false, false, false, false, false, false, true] ?_)
    clear hK K
    try simp only [go_sem, Nat.reduceLT, Nat.reduceLeDiff, Nat.reduceEqDiff, Nat.reduceAdd, Nat.reduceMul, Nat.reduceSub, reduceIte, reduceCtorEq]
    refine awp_if rfl (fun hcc2 => ?_) (fun hcc2 => ?_)
    · skip
      refine awp_seq_k fun K hK => ?_
      refine awp_region ?_
      refine opsWp_callD rfl rfl rfl (awake_pc_ev _) ?_
      rintro _ _ ⟨rfl, rfl⟩
      refine opsRunN tok 1 ?_
      simp only [go_sem, Nat.reduceLT, Nat.reduceLeDiff, Nat.reduceEqDiff, Nat.reduceAdd, Nat.reduceMul, Nat.reduceSub, reduceIte, reduceCtorEq, encE]
      refine opsWp_nil ?_
      refine hK _ _ (awp_keepM [false, false, false, false, true] ?_)
      clear hK K
      try simp only [go_sem, Nat.reduceLT, Nat.reduceLeDiff, Nat.reduceEqDiff, Nat.reduceAdd, Nat.reduceMul, Nat.reduceSub, reduceIte, reduceCtorEq]
      refine awp_ret ?_
      simp only [retQ, resAll, resOne, resAV, exists_eq_left', go_sem, Nat.reduceLT, Nat.reduceLeDiff, Nat.reduceEqDiff, Nat.reduceAdd, Nat.reduceMul, Nat.reduceSub, reduceIte, reduceCtorEq, encE]
      first | rfl
    · skip
      refine awp_skip ?_
      refine hZ1 _ _ ?_
      have hn20 : ns.length ≤ 20 := by omega
      have he100 : es.length ≤ 100 := by omega
      generalize hpl : planS ns es = pl
      refine awp_seq_k fun K hK => ?_
      refine awp_region ?_
      refine opsRunN tok 1 ?_
      simp only [go_sem, Nat.reduceLT, Nat.reduceLeDiff, Nat.reduceEqDiff, Nat.reduceAdd, Nat.reduceMul, Nat.reduceSub, reduceIte, reduceCtorEq, encE]
      refine opsWp_callD rfl rfl rfl (nodes_pc_ev _ (by omega) _) ?_
      rintro _ _ ⟨rfl, rfl⟩
      refine opsRunN tok 1 ?_
      simp only [go_sem, Nat.reduceLT, Nat.reduceLeDiff, Nat.reduceEqDiff, Nat.reduceAdd, Nat.reduceMul, Nat.reduceSub, reduceIte, reduceCtorEq, encE]
      refine opsWp_callD rfl rfl rfl (edges_pc_ev _ (by omega) _) ?_
      rintro _ _ ⟨rfl, rfl⟩
      refine opsWp_callD rfl rfl rfl (plan_pc_ev ns es hn he _) ?_
      rw [hpl]; rintro _ _ ⟨rfl, rfl⟩
      refine opsRunN tok 5 ?_
      simp only [go_sem, Nat.reduceLT, Nat.reduceLeDiff, Nat.reduceEqDiff, Nat.reduceAdd, Nat.reduceMul, Nat.reduceSub, reduceIte, reduceCtorEq, encE]
      refine opsWp_nil ?_
      refine hK _ _ (awp_keepM [true, true, false, false, false, true, true] ?_)
      clear hK K
      try simp only [go_sem, Nat.reduceLT, Nat.reduceLeDiff, Nat.reduceEqDiff, Nat.reduceAdd, Nat.reduceMul, Nat.reduceSub, reduceIte, reduceCtorEq]
      refine awp_seq_k fun Z2 hZ2 => ?_
      refine reg tok [true, true, false, false, false, true, false, false, false, false, false, false, false, false, false, false, false, false, false, false, false, false, false, false, false, false, false, false, false, false, false, true] fun K hK => ?_
      simp only [go_sem, Nat.reduceLT, Nat.reduceLeDiff, Nat.reduceEqDiff, Nat.reduceAdd, Nat.reduceMul, Nat.reduceSub, reduceIte, reduceCtorEq, encE]
      refine hK _ _ ?_
      clear hK K
      refine awp_if rfl (fun hcc4 => ?_) (fun hcc4 => ?_)
      · skip
        have hb : pl.1 = [] := by rw [← hpl]; exact plan_bad (by rw [hpl]; simpa using hcc4)
        refine awp_seq_k fun K hK => ?_
        refine awp_region ?_
        refine opsRunN tok 4 ?_
        simp only [go_sem, Nat.reduceLT, Nat.reduceLeDiff, Nat.reduceEqDiff, Nat.reduceAdd, Nat.reduceMul, Nat.reduceSub, reduceIte, reduceCtorEq, encE]
        refine ops_if 35 rfl (fun hg35 => ?_) (fun hg35 => ?_)
        · skip
          refine opsWp_callD rfl rfl rfl (awake_pc_ev _) ?_
          rintro _ _ ⟨rfl, rfl⟩
          refine opsRunN tok 2 ?_
          simp only [go_sem, Nat.reduceLT, Nat.reduceLeDiff, Nat.reduceEqDiff, Nat.reduceAdd, Nat.reduceMul, Nat.reduceSub, reduceIte, reduceCtorEq, encE]
          refine opsWp_nil ?_
          refine hK _ _ (awp_keepM [false, false, false, false, true] ?_)
          clear hK K
          try simp only [go_sem, Nat.reduceLT, Nat.reduceLeDiff, Nat.reduceEqDiff, Nat.reduceAdd, Nat.reduceMul, Nat.reduceSub, reduceIte, reduceCtorEq]
          refine awp_ret ?_
          simp only [retQ, resAll, resOne, resAV, exists_eq_left', go_sem, Nat.reduceLT, Nat.reduceLeDiff, Nat.reduceEqDiff, Nat.reduceAdd, Nat.reduceMul, Nat.reduceSub, reduceIte, reduceCtorEq, encE]
          first | rfl
        · skip
          exact absurd (by rw [hb]; rfl) hg35
      · skip
        have hp2 : (planS ns es).2 = 0 := by rw [hpl]; simpa using hcc4
        obtain ⟨hck, hpath⟩ := plan_ok hp2
        rw [hpl] at hpath
        obtain ⟨hl6, he64, hok, hoke, _⟩ := check_ok hck
        have hplen := path_length hok hpath
        have hmle := meas_le hok
        refine awp_skip ?_
        refine hZ2 _ _ ?_
        refine awp_seq_k fun K hK => ?_
        refine awp_region ?_
        refine opsRunN tok 1 ?_
        simp only [go_sem, Nat.reduceLT, Nat.reduceLeDiff, Nat.reduceEqDiff, Nat.reduceAdd, Nat.reduceMul, Nat.reduceSub, reduceIte, reduceCtorEq, encE]
        refine opsWp_callD rfl rfl rfl (nodes_own ns (by omega)) ?_
        rintro _ _ ⟨rfl, rfl⟩
        refine opsRunN tok 1 ?_
        simp only [go_sem, Nat.reduceLT, Nat.reduceLeDiff, Nat.reduceEqDiff, Nat.reduceAdd, Nat.reduceMul, Nat.reduceSub, reduceIte, reduceCtorEq, encE]
        refine opsWp_nil ?_
        refine hK _ _ (awp_keepM [false, true, false, false, false, true, false, true] ?_)
        clear hK K
        try simp only [go_sem, Nat.reduceLT, Nat.reduceLeDiff, Nat.reduceEqDiff, Nat.reduceAdd, Nat.reduceMul, Nat.reduceSub, reduceIte, reduceCtorEq]
        refine awp_seq_k fun Z3 hZ3 => ?_
        refine reg tok [false, true, false, false, false, true, false, true, true] fun K hK => ?_
        simp only [go_sem, Nat.reduceLT, Nat.reduceLeDiff, Nat.reduceEqDiff, Nat.reduceAdd, Nat.reduceMul, Nat.reduceSub, reduceIte, reduceCtorEq, encE]
        refine hK _ _ ?_
        clear hK K
        refine awp_block ?_
        refine awp_loopT (fun m L τ => ∃ (i : Nat) (ms : List Nd), m = pl.1.length + 2 - i ∧ L = ([.u, (.ds true (es.flatMap encE) es.length false), .u, .u, .u, (.ds true (pl.1.flatMap encI) pl.1.length false), .u, (.os true 3 0 0 0 ns.length false), (.int .i64 i)] : List AV) ∧ τ = ([.cells 0 (ms.flatMap encN)] : Store) ∧ i ≤ pl.1.length + 1 ∧ path es ms = some (pl.1.drop i) ∧ ms.all okN = true ∧ ms.length = ns.length) _ ⟨0, ns, rfl, rfl, rfl, by exact ⟨by omega, by simpa using hpath, hok, rfl⟩⟩ ?_ ?_
        · exact Tells.mk' [0] false 12 (by decide) (by simp) (by first | rfl | simp) (by first | rfl | simp [tell_u, tell_bool, tell_int, tell_str, tell_nilp, tell_nilm, tell_nilI, tell_nilF, tell_agg, tell_tup, tell_ifc, tell_ds, tell_dp, tell_op, tell_os, tell_mp, idxOf_nil, idxOf_cons, tellS_nil, tellS_cons, tellO_cells, tellO_map, tellO_iter, tellO_dead, store_get0, store_getS, tell_canonL, tell_canon, canonL, AV.canon, Bool.or_true, Bool.or_false, Bool.and_true, Bool.and_false, Bool.not_true, Bool.not_false, Option.some.injEq, canonL_N, canonL_E, canonL_encI, encE]) ⟨.inl rfl, .inr (by first | exact tell_canon _ _ _ (.ds true (es.flatMap encE) es.length false) 12 (by simp [AV.canon, canonL, canonL_N, canonL_E, canonL_encI, encE]) | rfl), .inl rfl, .inl rfl, .inl rfl, .inr (by first | exact tell_canon _ _ _ (.ds true (pl.1.flatMap encI) pl.1.length false) 12 (by simp [AV.canon, canonL, canonL_N, canonL_E, canonL_encI, encE]) | rfl), .inl rfl, .inr (by first | rfl | simp [tell_u, tell_bool, tell_int, tell_str, tell_nilp, tell_nilm, tell_nilI, tell_nilF, tell_agg, tell_tup, tell_ifc, tell_ds, tell_dp, tell_op, tell_os, tell_mp, idxOf_nil, idxOf_cons, tellS_nil, tellS_cons, tellO_cells, tellO_map, tellO_iter, tellO_dead, store_get0, store_getS, tell_canonL, tell_canon, canonL, AV.canon, Bool.or_true, Bool.or_false, Bool.and_true, Bool.and_false, Bool.not_true, Bool.not_false, Option.some.injEq]), .inr (by first | exact tell_canon _ _ _ (.int .i64 i) 12 (by simp [AV.canon, canonL, canonL_N, canonL_E, canonL_encI, encE]) | rfl), trivial⟩
        rintro m L τ ⟨i, ms, rfl, rfl, rfl, hi, hp, hok', hlen⟩
        refine awp_seq_k fun Z4 hZ4 => ?_
        refine reg tok [false, true, false, false, false, true, false, true, true, false, false, false, false, false, false, false, false, false, false, false, false, false, false, false, false, false, false, false, false, false, false, false, false, false, false, false, false, false, false, false, false, false, false, true] fun K hK => ?_
        simp only [go_sem, Nat.reduceLT, Nat.reduceLeDiff, Nat.reduceEqDiff, Nat.reduceAdd, Nat.reduceMul, Nat.reduceSub, reduceIte, reduceCtorEq, encE]
        refine hK _ _ ?_
        clear hK K
        refine awp_if rfl (fun hcc8 => ?_) (fun hcc8 => ?_)
        · skip
          have hwi : IntKind.i64.wrap ((i : Int) + 1) = ((i + 1 : Nat) : Int) := by rw [i64_in (by omega) (by omega)]; simp
          have hr := path_right hok' hp
          refine awp_skip ?_
          refine hZ4 _ _ ?_
          refine awp_seq_k fun Z5 hZ5 => ?_
          refine awp_block ?_
          refine awp_seq_k fun Z6 hZ6 => ?_
          refine reg tok [false, true, false, false, false, true, false, true, true, true] fun K hK => ?_
          simp only [go_sem, Nat.reduceLT, Nat.reduceLeDiff, Nat.reduceEqDiff, Nat.reduceAdd, Nat.reduceMul, Nat.reduceSub, reduceIte, reduceCtorEq, encE, hwi]
          refine hK _ _ ?_
          clear hK K
          refine awp_block ?_
          refine awp_loopT (fun m L τ => ∃ pre post, m = post.length ∧ L = ([.u, (.ds true (es.flatMap encE) es.length false), .u, .u, .u, (.ds true (pl.1.flatMap encI) pl.1.length false), .u, (.os true 3 0 0 0 ns.length false), (.int .i64 i), (.int .i64 pre.length)] : List AV) ∧ τ = ([.cells 0 (ms.flatMap encN)] : Store) ∧ es = pre ++ post) _ ⟨[], es, rfl, rfl, rfl, by simp⟩ ?_ ?_
          · exact Tells.mk' [0] false 12 (by decide) (by simp) (by first | rfl | simp) (by first | rfl | simp [tell_u, tell_bool, tell_int, tell_str, tell_nilp, tell_nilm, tell_nilI, tell_nilF, tell_agg, tell_tup, tell_ifc, tell_ds, tell_dp, tell_op, tell_os, tell_mp, idxOf_nil, idxOf_cons, tellS_nil, tellS_cons, tellO_cells, tellO_map, tellO_iter, tellO_dead, store_get0, store_getS, tell_canonL, tell_canon, canonL, AV.canon, Bool.or_true, Bool.or_false, Bool.and_true, Bool.and_false, Bool.not_true, Bool.not_false, Option.some.injEq, canonL_N, canonL_E, canonL_encI, encE]) ⟨.inl rfl, .inr (by first | exact tell_canon _ _ _ (.ds true (es.flatMap encE) es.length false) 12 (by simp [AV.canon, canonL, canonL_N, canonL_E, canonL_encI, encE]) | rfl), .inl rfl, .inl rfl, .inl rfl, .inr (by first | exact tell_canon _ _ _ (.ds true (pl.1.flatMap encI) pl.1.length false) 12 (by simp [AV.canon, canonL, canonL_N, canonL_E, canonL_encI, encE]) | rfl), .inl rfl, .inr (by first | rfl | simp [tell_u, tell_bool, tell_int, tell_str, tell_nilp, tell_nilm, tell_nilI, tell_nilF, tell_agg, tell_tup, tell_ifc, tell_ds, tell_dp, tell_op, tell_os, tell_mp, idxOf_nil, idxOf_cons, tellS_nil, tellS_cons, tellO_cells, tellO_map, tellO_iter, tellO_dead, store_get0, store_getS, tell_canonL, tell_canon, canonL, AV.canon, Bool.or_true, Bool.or_false, Bool.and_true, Bool.and_false, Bool.not_true, Bool.not_false, Option.some.injEq]), .inr (by first | exact tell_canon _ _ _ (.int .i64 i) 12 (by simp [AV.canon, canonL, canonL_N, canonL_E, canonL_encI, encE]) | rfl), .inr (by first | exact tell_canon _ _ _ (.int .i64 pre.length) 12 (by simp [AV.canon, canonL, canonL_N, canonL_E, canonL_encI, encE]) | rfl), trivial⟩
          rintro m L τ ⟨pre, post, rfl, rfl, rfl, hE2⟩
          rcases post with _ | ⟨e, post⟩
          · have hzf7 := z_false hE2
            refine awp_seq_k fun Z8 hZ8 => ?_
            refine reg tok [false, true, false, false, false, true, false, true, true, true, false, false, false, false, false, false, false, false, false, false, false, false, false, false, false, false, false, false, false, false, false, false, false, false, false, false, false, false, false, false, false, false, false, false, false, false, false, false, false, true] fun K hK => ?_
            simp only [go_sem, Nat.reduceLT, Nat.reduceLeDiff, Nat.reduceEqDiff, Nat.reduceAdd, Nat.reduceMul, Nat.reduceSub, reduceIte, reduceCtorEq, encE, hwi, hzf7]
            refine hK _ _ ?_
            clear hK K
            refine awp_cond_f rfl ?_
            refine awp_exit ?_
            refine hZ6 _ _ ?_
            refine reg tok [false, true, false, false, false, true, false, true, true, false, false, false, false, false, false, false, false, false, false, false, false, false, false, false, false, false, false, false, false, false, false, false, false, false, false, false, false, false, false, false, false, false, false, false, false, false, false, false, false, false, false, false, false, false, false, false, false, false, false, false, false, false, false, false, false, false, false, false, false, false, false, false, false, false, false, false, false, false, false, false, false, false, false, false, false, false, false, false, false, false, false, false, false, false, false, true] fun K hK => ?_
            simp only [go_sem, Nat.reduceLT, Nat.reduceLeDiff, Nat.reduceEqDiff, Nat.reduceAdd, Nat.reduceMul, Nat.reduceSub, reduceIte, reduceCtorEq, encE, hwi, hzf7]
            refine hK _ _ ?_
            clear hK K
            refine awp_if rfl (fun hcc16 => ?_) (fun hcc16 => ?_)
            · skip
              have hil : i < pl.1.length := by omega
              obtain ⟨x, hx⟩ : ∃ x, x = pl.1[i] := ⟨_, rfl⟩
              have hd : pl.1.drop i = x :: pl.1.drop (i + 1) := by rw [hx]; exact List.drop_eq_getElem_cons hil
              rw [hd] at hp
              obtain ⟨hcan, hp'⟩ := path_cons hok' hp
              obtain ⟨c0, c1, c2⟩ := canB_iff.1 hcan
              rw [getD_nat c0 c1] at c2
              have c3 : x < ns.length := by omega
              have hal := afterL_int c0 c1 hcan
              have jl : ∀ nl tt q, evIndexAddr tab 34 (.ds nl (pl.1.flatMap encI) pl.1.length tt) (.int q i) = some (.dp (pl.1.flatMap encI) i) := fun nl tt q => by
                have := encI_E.idx (l := pl.1) (k := (i : Int)) (by omega) (by omega) nl tt q
                rwa [Int.toNat_natCast, Nat.mul_one] at this
              have jr : ∀ σ, evLoad tab 3 (.dp (pl.1.flatMap encI) i) σ = some (.int .i64 x) := fun σ => by
                have := encI_E.fld0 (f := 3) rfl rfl hil σ
                rw [Nat.mul_one, ← hx] at this; exact this
              have jo := fun nl tt q sz id ver off => encN_E.idxo (len := ns.length) (k := x) c0 c3 nl tt q sz id ver off
              have j0 := fun n => enc_rd0 (n := n) encN_E.len (l := ms) (k := x.toNat) (by omega) (by decide)
              have j1 := fun n => enc_rd (n := n) (o := 1) encN_E.len (l := ms) (k := x.toNat) (by omega) (by decide)
              have js : (ms.flatMap encN).set (x.toNat * 3) (.int .i64 (IntKind.i64.wrap (ms[x.toNat].v + 1))) = (afterL ms x).flatMap encN := by
                rw [hal]; exact enc_set0 encN_E.len (by omega) (by decide) rfl
              have jz : (x.toNat * 3 + 1 ≤ (ms.flatMap encN).length) = True := eq_true (by rw [enc_length encN_E.len]; omega)
              refine awp_seq_k fun Z9 hZ9 => ?_
              refine awp_seq_k fun K hK => ?_
              refine DW.start (T := tab) [.any, .any, .any, .at [], .any, .any, .any, .any, .any, .at [], .any, .at [], .any, .any, .any, .any, .any, .any, .any, .at [], .any, .any, .at [], .any, .any, .any, .any, .at [], .any, .any, .at [], .any, .any] [] ?_
              refine DW.runN tok 6 ?_
              simp only [go_sem, Nat.reduceLT, Nat.reduceLeDiff, Nat.reduceEqDiff, Nat.reduceAdd, Nat.reduceMul, Nat.reduceSub, reduceIte, reduceCtorEq, encE, hwi, hzf7, jl, jr, jo, j0, j1, encN, Nat.mul_one]
              refine DW.if 101 rfl (fun hg101 => ?_) (fun hg101 => ?_)
              · skip
                exact absurd hg101 (by omega)
              · skip
                refine DW.runN tok 8 ?_
                simp only [go_sem, Nat.reduceLT, Nat.reduceLeDiff, Nat.reduceEqDiff, Nat.reduceAdd, Nat.reduceMul, Nat.reduceSub, reduceIte, reduceCtorEq, encE, hwi, hzf7, jl, jr, jo, j0, j1, encN, Nat.mul_one]
                refine DW.runN tok 1 ?_
                simp only [go_sem, Nat.reduceLT, Nat.reduceLeDiff, Nat.reduceEqDiff, Nat.reduceAdd, Nat.reduceMul, Nat.reduceSub, reduceIte, reduceCtorEq, encE, hwi, hzf7, jl, jr, jo, j0, j1, encN, Nat.mul_one]
                refine DW.if 110 rfl (fun hg110 => ?_) (fun hg110 => ?_)
                · skip
                  exact absurd hg110 (by omega)
                · skip
                  refine DW.runN tok 8 ?_
                  simp only [go_sem, Nat.reduceLT, Nat.reduceLeDiff, Nat.reduceEqDiff, Nat.reduceAdd, Nat.reduceMul, Nat.reduceSub, reduceIte, reduceCtorEq, encE, hwi, hzf7, jl, jr, jo, j0, j1, encN, Nat.mul_one]
                  refine DW.runN tok 8 ?_
                  simp only [go_sem, Nat.reduceLT, Nat.reduceLeDiff, Nat.reduceEqDiff, Nat.reduceAdd, Nat.reduceMul, Nat.reduceSub, reduceIte, reduceCtorEq, encE, hwi, hzf7, jl, jr, jo, j0, j1, encN, Nat.mul_one]
                  refine DW.runN tok 2 ?_
                  simp only [go_sem, Nat.reduceLT, Nat.reduceLeDiff, Nat.reduceEqDiff, Nat.reduceAdd, Nat.reduceMul, Nat.reduceSub, reduceIte, reduceCtorEq, encE, hwi, hzf7, jl, jr, jo, j0, j1, encN, Nat.mul_one]
                  refine DW.fin tok (by decide +kernel) rfl ?_
                  refine hK _ _ (awp_keepM [false, true, false, false, false, true, false, true, true, false, false, false, false, false, false, false, false, false, false, false, false, false, false, false, false, false, false, false, false, false, false, false, false, false, false, false, false, false, false, false, false, false, false, false, false, false, false, false, false, false, false, false, false, false, false, false, false, false, false, false, false, false, false, false, false, false, false, false, false, false, false, false, false, false, false, false, false, false, false, false, false, false, false, false, false, false, false, false, false, false, false, false, false, false, false, false, false, false, false, false, false, false, false, false, false, false, false, false, false, false, false, false, false, false, false, false, false, false, false, false, false, false, false, false, false, false, false, false, true] ?_)
                  clear hK K
                  try simp only [go_sem, Nat.reduceLT, Nat.reduceLeDiff, Nat.reduceEqDiff, Nat.reduceAdd, Nat.reduceMul, Nat.reduceSub, reduceIte, reduceCtorEq]
                  refine awp_if rfl (fun hc => ?_) (fun _ => ?_)
                  · exact absurd hc (by omega)
                  refine awp_skip ?_
                  refine hZ9 _ _ ?_
                  refine regEnd tok ?_
                  simp only [go_sem, Nat.reduceLT, Nat.reduceLeDiff, Nat.reduceEqDiff, Nat.reduceAdd, Nat.reduceMul, Nat.reduceSub, reduceIte, reduceCtorEq, encE, hwi, hzf7, jl, jr, jo, j0, js, jz, encN, Nat.mul_one]
                  refine hZ5 _ _ ?_
                  refine regEnd tok ?_
                  simp only [go_sem, Nat.reduceLT, Nat.reduceLeDiff, Nat.reduceEqDiff, Nat.reduceAdd, Nat.reduceMul, Nat.reduceSub, reduceIte, reduceCtorEq, encE, hwi, hzf7]
                  refine ⟨_, _, _, ?_, ⟨i + 1, afterL ms x, rfl, rfl, rfl, ?_⟩, ?_⟩
                  · omega
                  · exact ⟨by omega, hp', afterL_ok hok' hcan, by rw [afterL_length hcan, hlen]⟩
                  · exact Tells.mk' [0] false 12 (by decide) (by simp) (by first | rfl | simp) (by first | rfl | simp [tell_u, tell_bool, tell_int, tell_str, tell_nilp, tell_nilm, tell_nilI, tell_nilF, tell_agg, tell_tup, tell_ifc, tell_ds, tell_dp, tell_op, tell_os, tell_mp, idxOf_nil, idxOf_cons, tellS_nil, tellS_cons, tellO_cells, tellO_map, tellO_iter, tellO_dead, store_get0, store_getS, tell_canonL, tell_canon, canonL, AV.canon, Bool.or_true, Bool.or_false, Bool.and_true, Bool.and_false, Bool.not_true, Bool.not_false, Option.some.injEq, canonL_N, canonL_E, canonL_encI, encE]) ⟨.inl rfl, .inr (by first | exact tell_canon _ _ _ (.ds true (es.flatMap encE) es.length false) 12 (by simp [AV.canon, canonL, canonL_N, canonL_E, canonL_encI, encE]) | rfl), .inl rfl, .inl rfl, .inl rfl, .inr (by first | exact tell_canon _ _ _ (.ds true (pl.1.flatMap encI) pl.1.length false) 12 (by simp [AV.canon, canonL, canonL_N, canonL_E, canonL_encI, encE]) | rfl), .inl rfl, .inr (by first | rfl | simp [tell_u, tell_bool, tell_int, tell_str, tell_nilp, tell_nilm, tell_nilI, tell_nilF, tell_agg, tell_tup, tell_ifc, tell_ds, tell_dp, tell_op, tell_os, tell_mp, idxOf_nil, idxOf_cons, tellS_nil, tellS_cons, tellO_cells, tellO_map, tellO_iter, tellO_dead, store_get0, store_getS, tell_canonL, tell_canon, canonL, AV.canon, Bool.or_true, Bool.or_false, Bool.and_true, Bool.and_false, Bool.not_true, Bool.not_false, Option.some.injEq]), .inr (by first | exact tell_canon _ _ _ (.int .i64 i) 12 (by simp [AV.canon, canonL, canonL_N, canonL_E, canonL_encI, encE]) | rfl), trivial⟩
            · skip
              refine awp_skip ?_
              refine hZ5 _ _ ?_
              refine regEnd tok ?_
              simp only [go_sem, Nat.reduceLT, Nat.reduceLeDiff, Nat.reduceEqDiff, Nat.reduceAdd, Nat.reduceMul, Nat.reduceSub, reduceIte, reduceCtorEq, encE, hwi, hzf7]
              refine ⟨_, _, _, ?_, ⟨i + 1, ms, rfl, rfl, rfl, ?_⟩, ?_⟩
              · omega
              · exact ⟨by omega, by rw [hp, List.drop_of_length_le (by omega), List.drop_of_length_le (by omega)], hok', hlen⟩
              · exact Tells.mk' [0] false 12 (by decide) (by simp) (by first | rfl | simp) (by first | rfl | simp [tell_u, tell_bool, tell_int, tell_str, tell_nilp, tell_nilm, tell_nilI, tell_nilF, tell_agg, tell_tup, tell_ifc, tell_ds, tell_dp, tell_op, tell_os, tell_mp, idxOf_nil, idxOf_cons, tellS_nil, tellS_cons, tellO_cells, tellO_map, tellO_iter, tellO_dead, store_get0, store_getS, tell_canonL, tell_canon, canonL, AV.canon, Bool.or_true, Bool.or_false, Bool.and_true, Bool.and_false, Bool.not_true, Bool.not_false, Option.some.injEq, canonL_N, canonL_E, canonL_encI, encE]) ⟨.inl rfl, .inr (by first | exact tell_canon _ _ _ (.ds true (es.flatMap encE) es.length false) 12 (by simp [AV.canon, canonL, canonL_N, canonL_E, canonL_encI, encE]) | rfl), .inl rfl, .inl rfl, .inl rfl, .inr (by first | exact tell_canon _ _ _ (.ds true (pl.1.flatMap encI) pl.1.length false) 12 (by simp [AV.canon, canonL, canonL_N, canonL_E, canonL_encI, encE]) | rfl), .inl rfl, .inr (by first | rfl | simp [tell_u, tell_bool, tell_int, tell_str, tell_nilp, tell_nilm, tell_nilI, tell_nilF, tell_agg, tell_tup, tell_ifc, tell_ds, tell_dp, tell_op, tell_os, tell_mp, idxOf_nil, idxOf_cons, tellS_nil, tellS_cons, tellO_cells, tellO_map, tellO_iter, tellO_dead, store_get0, store_getS, tell_canonL, tell_canon, canonL, AV.canon, Bool.or_true, Bool.or_false, Bool.and_true, Bool.and_false, Bool.not_true, Bool.not_false, Option.some.injEq]), .inr (by first | exact tell_canon _ _ _ (.int .i64 i) 12 (by simp [AV.canon, canonL, canonL_N, canonL_E, canonL_encI, encE]) | rfl), trivial⟩
          · have hzt7 := z_true hE2
            have hzi7 := z_inc hE2 he
            have hzx7 := fun nl tt q => encE_E.idxZ hE2 nl tt q
            have hzf7_0 := encE_E.fldZ0 (f := 3) rfl rfl hE2
            have hzf7_1 := encE_E.fldZ (f := 3) rfl rfl hE2 (o := 1) (by decide)
            obtain ⟨hoe, hfit⟩ := rightS_mem hr e (by rw [hE2]; simp)
            have hoe' := okE_iff.1 hoe
            rw [getD_nat hoe'.1.1 hoe'.1.2, getD_nat hoe'.2.1 hoe'.2.2] at hfit
            have iy1 := fun nl tt q sz id ver off => encN_E.idxo (len := ns.length) (k := e.f) (by omega) (by omega) nl tt q sz id ver off
            have iy2 := fun nl tt q sz id ver off => encN_E.idxo (len := ns.length) (k := e.t) (by omega) (by omega) nl tt q sz id ver off
            have ir1 := evRd_enc encN_E.len (l := ms) (i := e.f.toNat) (by omega)
            have ir2 := evRd_enc encN_E.len (l := ms) (i := e.t.toNat) (by omega)
            have k1 := okN_spec (getOk hok' (i := e.f.toNat) (by omega))
            have k2 := okN_spec (getOk hok' (i := e.t.toNat) (by omega))
            have hany : anyC (ms[e.f.toNat]'(by omega)) (ms[e.t.toNat]'(by omega)) 12 1 = true := by rw [← fitS_iff (by omega) (by omega)]; exact hfit
            have o1 : 0 ≤ (ms[e.f.toNat]'(by omega)).v ∧ (ms[e.f.toNat]'(by omega)).v ≤ 100 ∧ 0 ≤ (ms[e.f.toNat]'(by omega)).b ∧ (ms[e.f.toNat]'(by omega)).b ≤ 100 := by omega
            have o2 : 0 ≤ (ms[e.t.toNat]'(by omega)).v ∧ (ms[e.t.toNat]'(by omega)).v ≤ 100 ∧ 0 ≤ (ms[e.t.toNat]'(by omega)).b ∧ (ms[e.t.toNat]'(by omega)).b ≤ 100 := by omega
            refine awp_seq_k fun Z10 hZ10 => ?_
            refine reg tok [false, true, false, false, false, true, false, true, true, true, false, false, false, false, false, false, false, false, false, false, false, false, false, false, false, false, false, false, false, false, false, false, false, false, false, false, false, false, false, false, false, false, false, false, false, false, false, false, false, true] fun K hK => ?_
            simp only [go_sem, Nat.reduceLT, Nat.reduceLeDiff, Nat.reduceEqDiff, Nat.reduceAdd, Nat.reduceMul, Nat.reduceSub, reduceIte, reduceCtorEq, encE, hwi, hzt7, hzi7, hzx7, hzf7_0, hzf7_1]
            refine hK _ _ ?_
            clear hK K
            refine awp_cond_t rfl ?_
            refine awp_skip ?_
            refine hZ10 _ _ ?_
            refine awp_seq_k fun Z11 hZ11 => ?_
            refine awp_block ?_
            refine awp_seq_k fun K hK => ?_
            refine DW.start (T := tab) [.any, .any, .any, .any, .at [], .any, .any, .any, .any, .at [], .any, .any] [] ?_
            refine DW.runN tok 8 ?_
            simp only [go_sem, Nat.reduceLT, Nat.reduceLeDiff, Nat.reduceEqDiff, Nat.reduceAdd, Nat.reduceMul, Nat.reduceSub, reduceIte, reduceCtorEq, encE, hwi, hzt7, hzi7, hzx7, hzf7_0, hzf7_1]
            refine DW.runN tok 4 ?_
            simp only [go_sem, Nat.reduceLT, Nat.reduceLeDiff, Nat.reduceEqDiff, Nat.reduceAdd, Nat.reduceMul, Nat.reduceSub, reduceIte, reduceCtorEq, encE, hwi, hzt7, hzi7, hzx7, hzf7_0, hzf7_1]
            refine DW.fin tok (by decide +kernel) rfl ?_
            refine hK _ _ (awp_keepM [false, true, false, false, false, true, false, true, true, true, true, true] ?_)
            clear hK K
            try simp only [go_sem, Nat.reduceLT, Nat.reduceLeDiff, Nat.reduceEqDiff, Nat.reduceAdd, Nat.reduceMul, Nat.reduceSub, reduceIte, reduceCtorEq]
            refine awp_seq_k fun K hK => ?_
            refine DW.start (T := tab) [.any, .any, .any, .any, .any, .at [], .any, .any, .any, .any, .any, .any, .any, .any, .any, .at [], .any, .any, .any, .any, .any, .any, .at [], .any, .any, .any, .at [], .eff, .any, .any] [] ?_
            refine DW.runN tok 3 ?_
            simp only [go_sem, Nat.reduceLT, Nat.reduceLeDiff, Nat.reduceEqDiff, Nat.reduceAdd, Nat.reduceMul, Nat.reduceSub, reduceIte, reduceCtorEq, encE, hwi, hzt7, hzi7, hzx7, hzf7_0, hzf7_1, iy1, iy2, ir1, ir2]
            refine DW.if 64 rfl (fun hg64 => ?_) (fun hg64 => ?_)
            · skip
              exact absurd hg64 (by omega)
            · skip
              refine DW.runN tok 6 ?_
              simp only [go_sem, Nat.reduceLT, Nat.reduceLeDiff, Nat.reduceEqDiff, Nat.reduceAdd, Nat.reduceMul, Nat.reduceSub, reduceIte, reduceCtorEq, encE, hwi, hzt7, hzi7, hzx7, hzf7_0, hzf7_1, iy1, iy2, ir1, ir2]
              refine DW.if 70 rfl (fun hg70 => ?_) (fun hg70 => ?_)
              · skip
                exact absurd hg70 (by omega)
              · skip
                refine DW.runN tok 4 ?_
                simp only [go_sem, Nat.reduceLT, Nat.reduceLeDiff, Nat.reduceEqDiff, Nat.reduceAdd, Nat.reduceMul, Nat.reduceSub, reduceIte, reduceCtorEq, encE, hwi, hzt7, hzi7, hzx7, hzf7_0, hzf7_1, iy1, iy2, ir1, ir2]
                refine DW.if 74 rfl (fun hg74 => ?_) (fun hg74 => ?_)
                · skip
                  exact absurd hg74 (by omega)
                · skip
                  refine DW.runN tok 6 ?_
                  simp only [go_sem, Nat.reduceLT, Nat.reduceLeDiff, Nat.reduceEqDiff, Nat.reduceAdd, Nat.reduceMul, Nat.reduceSub, reduceIte, reduceCtorEq, encE, hwi, hzt7, hzi7, hzx7, hzf7_0, hzf7_1, iy1, iy2, ir1, ir2]
                  refine DW.if 80 rfl (fun hg80 => ?_) (fun hg80 => ?_)
                  · skip
                    exact absurd hg80 (by omega)
                  · skip
                    refine DW.runN tok 8 ?_
                    simp only [go_sem, Nat.reduceLT, Nat.reduceLeDiff, Nat.reduceEqDiff, Nat.reduceAdd, Nat.reduceMul, Nat.reduceSub, reduceIte, reduceCtorEq, encE, hwi, hzt7, hzi7, hzx7, hzf7_0, hzf7_1, iy1, iy2, ir1, ir2]
                    refine DW.call rfl rfl rfl (common_pc_ev (ms[e.f.toNat]'(by omega)) (ms[e.t.toNat]'(by omega)) o1 o2 _) ?_
                    refine DW.runN tok 2 ?_
                    simp only [go_sem, Nat.reduceLT, Nat.reduceLeDiff, Nat.reduceEqDiff, Nat.reduceAdd, Nat.reduceMul, Nat.reduceSub, reduceIte, reduceCtorEq, encE, hwi, hzt7, hzi7, hzx7, hzf7_0, hzf7_1, iy1, iy2, ir1, ir2]
                    refine DW.fin tok (by decide +kernel) rfl ?_
                    refine hK _ _ (awp_keepM [false, true, false, false, false, true, false, true, true, true, false, false, false, false, false, false, false, false, false, false, false, false, false, false, false, false, false, false, false, false, false, false, false, false, false, false, false, false, false, false, false, false, false, false, false, false, false, false, false, false, false, false, false, false, false, false, false, false, false, false, false, false, false, false, false, false, false, false, false, false, false, false, false, false, false, false, false, false, false, false, false, false, false, false, false, false, false, false, false, false, false, true] ?_)
                    clear hK K
                    try simp only [go_sem, Nat.reduceLT, Nat.reduceLeDiff, Nat.reduceEqDiff, Nat.reduceAdd, Nat.reduceMul, Nat.reduceSub, reduceIte, reduceCtorEq]
                    refine awp_if rfl (fun hc => ?_) (fun _ => ?_)
                    · exact absurd hc (by rw [hany]; simp)
                    refine awp_skip ?_
                    refine hZ11 _ _ ?_
                    refine regEnd tok ?_
                    simp only [go_sem, Nat.reduceLT, Nat.reduceLeDiff, Nat.reduceEqDiff, Nat.reduceAdd, Nat.reduceMul, Nat.reduceSub, reduceIte, reduceCtorEq, encE, hwi, hzt7, hzi7, hzx7, hzf7_0, hzf7_1]
                    refine ⟨_, _, _, ?_, ⟨pre ++ [e], post, rfl, rfl, rfl, ?_⟩, ?_⟩
                    · simp
                    · simpa using hE2
                    · exact Tells.mk' [0] false 12 (by decide) (by simp) (by first | rfl | simp) (by first | rfl | simp [tell_u, tell_bool, tell_int, tell_str, tell_nilp, tell_nilm, tell_nilI, tell_nilF, tell_agg, tell_tup, tell_ifc, tell_ds, tell_dp, tell_op, tell_os, tell_mp, idxOf_nil, idxOf_cons, tellS_nil, tellS_cons, tellO_cells, tellO_map, tellO_iter, tellO_dead, store_get0, store_getS, tell_canonL, tell_canon, canonL, AV.canon, Bool.or_true, Bool.or_false, Bool.and_true, Bool.and_false, Bool.not_true, Bool.not_false, Option.some.injEq, canonL_N, canonL_E, canonL_encI, encE]) ⟨.inl rfl, .inr (by first | exact tell_canon _ _ _ (.ds true (es.flatMap encE) es.length false) 12 (by simp [AV.canon, canonL, canonL_N, canonL_E, canonL_encI, encE]) | rfl), .inl rfl, .inl rfl, .inl rfl, .inr (by first | exact tell_canon _ _ _ (.ds true (pl.1.flatMap encI) pl.1.length false) 12 (by simp [AV.canon, canonL, canonL_N, canonL_E, canonL_encI, encE]) | rfl), .inl rfl, .inr (by first | rfl | simp [tell_u, tell_bool, tell_int, tell_str, tell_nilp, tell_nilm, tell_nilI, tell_nilF, tell_agg, tell_tup, tell_ifc, tell_ds, tell_dp, tell_op, tell_os, tell_mp, idxOf_nil, idxOf_cons, tellS_nil, tellS_cons, tellO_cells, tellO_map, tellO_iter, tellO_dead, store_get0, store_getS, tell_canonL, tell_canon, canonL, AV.canon, Bool.or_true, Bool.or_false, Bool.and_true, Bool.and_false, Bool.not_true, Bool.not_false, Option.some.injEq]), .inr (by first | exact tell_canon _ _ _ (.int .i64 i) 12 (by simp [AV.canon, canonL, canonL_N, canonL_E, canonL_encI, encE]) | rfl), .inr (by first | exact tell_canon _ _ _ (.int .i64 pre.length) 12 (by simp [AV.canon, canonL, canonL_N, canonL_E, canonL_encI, encE]) | rfl), trivial⟩
        · skip
          have hend : ∀ x ∈ ms, x.v = x.t := path_nil hok' (by rw [hp, List.drop_of_length_le (by omega)])
          refine awp_exit ?_
          refine hZ3 _ _ ?_
          refine awp_seq_k fun Z12 hZ12 => ?_
          refine reg tok [false, false, false, false, false, false, false, true, false, false, false, false, true] fun K hK => ?_
          simp only [go_sem, Nat.reduceLT, Nat.reduceLeDiff, Nat.reduceEqDiff, Nat.reduceAdd, Nat.reduceMul, Nat.reduceSub, reduceIte, reduceCtorEq, encE]
          refine hK _ _ ?_
          clear hK K
          refine awp_block ?_
          refine awp_loopT (fun m L τ => ∃ (j : Nat), m = ms.length + 1 - j ∧ L = ([.u, .u, .u, .u, .u, .u, .u, (.os true 3 0 0 0 ns.length false), .u, .u, .u, .u, (.int .i64 j)] : List AV) ∧ τ = ([.cells 0 (ms.flatMap encN)] : Store) ∧ j ≤ ms.length) _ ⟨0, rfl, rfl, rfl, by simp⟩ ?_ ?_
          · exact Tells.mk' [0] false 12 (by decide) (by simp) (by first | rfl | simp) (by first | rfl | simp [tell_u, tell_bool, tell_int, tell_str, tell_nilp, tell_nilm, tell_nilI, tell_nilF, tell_agg, tell_tup, tell_ifc, tell_ds, tell_dp, tell_op, tell_os, tell_mp, idxOf_nil, idxOf_cons, tellS_nil, tellS_cons, tellO_cells, tellO_map, tellO_iter, tellO_dead, store_get0, store_getS, tell_canonL, tell_canon, canonL, AV.canon, Bool.or_true, Bool.or_false, Bool.and_true, Bool.and_false, Bool.not_true, Bool.not_false, Option.some.injEq, canonL_N, canonL_E, canonL_encI, encE]) ⟨.inl rfl, .inl rfl, .inl rfl, .inl rfl, .inl rfl, .inl rfl, .inl rfl, .inr (by first | rfl | simp [tell_u, tell_bool, tell_int, tell_str, tell_nilp, tell_nilm, tell_nilI, tell_nilF, tell_agg, tell_tup, tell_ifc, tell_ds, tell_dp, tell_op, tell_os, tell_mp, idxOf_nil, idxOf_cons, tellS_nil, tellS_cons, tellO_cells, tellO_map, tellO_iter, tellO_dead, store_get0, store_getS, tell_canonL, tell_canon, canonL, AV.canon, Bool.or_true, Bool.or_false, Bool.and_true, Bool.and_false, Bool.not_true, Bool.not_false, Option.some.injEq]), .inl rfl, .inl rfl, .inl rfl, .inl rfl, .inr (by first | exact tell_canon _ _ _ (.int .i64 j) 12 (by simp [AV.canon, canonL, canonL_N, canonL_E, canonL_encI, encE]) | rfl), trivial⟩
          rintro m L τ ⟨j, rfl, rfl, rfl, hj⟩
          refine awp_seq_k fun Z13 hZ13 => ?_
          refine reg tok [false, false, false, false, false, false, false, true, false, false, false, false, true, false, false, false, false, false, false, false, false, false, false, false, false, false, false, false, false, false, false, false, false, false, false, false, false, false, false, false, false, false, false, false, false, false, false, false, false, false, false, false, false, false, false, false, false, false, false, false, false, false, false, false, false, false, false, false, false, false, false, false, false, false, false, false, false, false, false, false, false, false, false, false, false, false, false, false, false, false, false, false, false, false, false, false, false, false, false, false, false, false, false, false, false, false, false, false, false, false, false, false, false, false, false, false, false, false, false, false, false, false, false, false, false, false, false, false, false, false, false, false, false, false, false, false, false, false, false, false, false, false, false, true] fun K hK => ?_
          simp only [go_sem, Nat.reduceLT, Nat.reduceLeDiff, Nat.reduceEqDiff, Nat.reduceAdd, Nat.reduceMul, Nat.reduceSub, reduceIte, reduceCtorEq, encE]
          refine hK _ _ ?_
          clear hK K
          refine awp_if rfl (fun hcc21 => ?_) (fun hcc21 => ?_)
          · skip
            have hjl : j < ms.length := by omega
            have hwj : IntKind.i64.wrap ((j : Int) + 1) = ((j + 1 : Nat) : Int) := by rw [i64_in (by omega) (by omega)]; simp
            have qo := fun nl tt q sz id ver off => encN_E.idxo (len := ns.length) (k := (j : Int)) (by omega) (by omega) nl tt q sz id ver off
            have q0 := fun n => enc_rd0 (n := n) encN_E.len (l := ms) (k := j) hjl (by decide)
            have q1 := fun n => enc_rd (n := n) (o := 1) encN_E.len (l := ms) (k := j) hjl (by decide)
            have hvt := hend _ (List.getElem_mem hjl)
            refine awp_skip ?_
            refine hZ13 _ _ ?_
            refine awp_seq_k fun Z14 hZ14 => ?_
            refine awp_block ?_
            refine awp_seq_k fun K hK => ?_
            refine DW.start (T := tab) [.any, .any, .any, .any, .at [], .any, .any, .any, .any, .at [], .any] [] ?_
            refine DW.runN tok 8 ?_
            simp only [go_sem, Nat.reduceLT, Nat.reduceLeDiff, Nat.reduceEqDiff, Nat.reduceAdd, Nat.reduceMul, Nat.reduceSub, reduceIte, reduceCtorEq, encE, hwj, qo, q0, q1, encN, Int.toNat_natCast]
            refine DW.runN tok 3 ?_
            simp only [go_sem, Nat.reduceLT, Nat.reduceLeDiff, Nat.reduceEqDiff, Nat.reduceAdd, Nat.reduceMul, Nat.reduceSub, reduceIte, reduceCtorEq, encE, hwj, qo, q0, q1, encN, Int.toNat_natCast]
            refine DW.fin tok (by decide +kernel) rfl ?_
            refine hK _ _ (awp_keepM [false, false, false, false, false, false, false, true, false, false, false, false, true, false, false, false, false, false, false, false, false, false, false, false, false, false, false, false, false, false, false, false, false, false, false, false, false, false, false, false, false, false, false, false, false, false, false, false, false, false, false, false, false, false, false, false, false, false, false, false, false, false, false, false, false, false, false, false, false, false, false, false, false, false, false, false, false, false, false, false, false, false, false, false, false, false, false, false, false, false, false, false, false, false, false, false, false, false, false, false, false, false, false, false, false, false, false, false, false, false, false, false, false, false, false, false, false, false, false, false, false, false, false, false, false, false, false, false, false, false, false, false, false, false, false, false, false, false, false, false, false, false, false, false, false, false, false, false, false, false, false, false, false, false, false, false, true] ?_)
            clear hK K
            try simp only [go_sem, Nat.reduceLT, Nat.reduceLeDiff, Nat.reduceEqDiff, Nat.reduceAdd, Nat.reduceMul, Nat.reduceSub, reduceIte, reduceCtorEq]
            refine awp_if rfl (fun hc => ?_) (fun _ => ?_)
            · exact absurd hvt hc
            refine awp_skip ?_
            refine hZ14 _ _ ?_
            refine regEnd tok ?_
            simp only [go_sem, Nat.reduceLT, Nat.reduceLeDiff, Nat.reduceEqDiff, Nat.reduceAdd, Nat.reduceMul, Nat.reduceSub, reduceIte, reduceCtorEq, encE, hwj]
            refine ⟨_, _, _, ?_, ⟨j + 1, rfl, rfl, rfl, ?_⟩, ?_⟩
            · omega
            · omega
            · exact Tells.mk' [0] false 12 (by decide) (by simp) (by first | rfl | simp) (by first | rfl | simp [tell_u, tell_bool, tell_int, tell_str, tell_nilp, tell_nilm, tell_nilI, tell_nilF, tell_agg, tell_tup, tell_ifc, tell_ds, tell_dp, tell_op, tell_os, tell_mp, idxOf_nil, idxOf_cons, tellS_nil, tellS_cons, tellO_cells, tellO_map, tellO_iter, tellO_dead, store_get0, store_getS, tell_canonL, tell_canon, canonL, AV.canon, Bool.or_true, Bool.or_false, Bool.and_true, Bool.and_false, Bool.not_true, Bool.not_false, Option.some.injEq, canonL_N, canonL_E, canonL_encI, encE]) ⟨.inl rfl, .inl rfl, .inl rfl, .inl rfl, .inl rfl, .inl rfl, .inl rfl, .inr (by first | rfl | simp [tell_u, tell_bool, tell_int, tell_str, tell_nilp, tell_nilm, tell_nilI, tell_nilF, tell_agg, tell_tup, tell_ifc, tell_ds, tell_dp, tell_op, tell_os, tell_mp, idxOf_nil, idxOf_cons, tellS_nil, tellS_cons, tellO_cells, tellO_map, tellO_iter, tellO_dead, store_get0, store_getS, tell_canonL, tell_canon, canonL, AV.canon, Bool.or_true, Bool.or_false, Bool.and_true, Bool.and_false, Bool.not_true, Bool.not_false, Option.some.injEq]), .inl rfl, .inl rfl, .inl rfl, .inl rfl, .inr (by first | exact tell_canon _ _ _ (.int .i64 j) 12 (by simp [AV.canon, canonL, canonL_N, canonL_E, canonL_encI, encE]) | rfl), trivial⟩
          · skip
            refine awp_exit ?_
            refine hZ12 _ _ ?_
            refine awp_seq_k fun K hK => ?_
            refine awp_region ?_
            refine opsWp_callD rfl rfl rfl (awake_pc_ev _) ?_
            rintro _ _ ⟨rfl, rfl⟩
            refine opsRunN tok 1 ?_
            simp only [go_sem, Nat.reduceLT, Nat.reduceLeDiff, Nat.reduceEqDiff, Nat.reduceAdd, Nat.reduceMul, Nat.reduceSub, reduceIte, reduceCtorEq, encE]
            refine opsWp_nil ?_
            refine hK _ _ (awp_keepM [false, false, false, false, true] ?_)
            clear hK K
            try simp only [go_sem, Nat.reduceLT, Nat.reduceLeDiff, Nat.reduceEqDiff, Nat.reduceAdd, Nat.reduceMul, Nat.reduceSub, reduceIte, reduceCtorEq]
            refine awp_ret ?_
            simp only [retQ, resAll, resOne, resAV, exists_eq_left', go_sem, Nat.reduceLT, Nat.reduceLeDiff, Nat.reduceEqDiff, Nat.reduceAdd, Nat.reduceMul, Nat.reduceSub, reduceIte, reduceCtorEq, encE]
            first | rfl

theorem safe_pc_ev (ns : List Nd) (es : List Ed) (hn : ns.length < 9223372036854775808) (he : es.length < 9223372036854775808) (σ : Store) : ACalls Try.prog 7 [.ds true (ns.flatMap encN) ns.length false, .ds true (es.flatMap encE) es.length false] σ fun r σ' => r = .bool true ∧ σ' = σ :=
  (safe_pc ns es hn he).pureAt (by simp [AV.canon, canonL, canonL_N, canonL_E, canonL_encI, encE]) (by simp [AV.canon, canonL, canonL_N, canonL_E, canonL_encI, encE]) σ


end Go.Proofs.Ytplddidoobjcnaa
