/- PlanNone: what its function answers. -/
import Derived.Test.YtplddidoobjcnaaPn
set_option maxRecDepth 4000
set_option maxHeartbeats 2000000
set_option linter.unusedSimpArgs false
set_option linter.unusedVariables false
set_option linter.constructorNameAsVariable false
namespace Go.Proofs.Ytplddidoobjcnaa
open AM

theorem tryF_none {p : List Nd → Option (List Int)} {ns : List Nd} : ∀ {c : Nat} {i : Int}, tryF p ns c i = none → ∀ j, i ≤ j → j < i + c → canB ns j = true → p (afterL ns j) = none := by
  intro c
  induction c with
  | zero => intro i _ j h1 h2; omega
  | succ c ih =>
    intro i h j h1 h2 hj
    simp only [tryF] at h
    by_cases e : i = j
    · subst e
      rw [hj] at h
      simp only [if_true] at h
      split at h
      · cases h
      · assumption
    · have h' : tryF p ns c (i + 1) = none := by
        split at h
        · split at h
          · cases h
          · exact h
        · exact h
      exact ih h' j (by omega) (by omega) hj

theorem path_none {es : List Ed} {ns : List Nd} (hok : ns.all okN = true) (h : path es ns = none) (hr : rightS ns es = true) : doneTo ns ns.length = false ∧ ∀ j, canB ns j = true → path es (afterL ns j) = none := by
  rw [path_eq hok, hr] at h
  simp only [if_true] at h
  split at h
  · cases h
  · rename_i hd
    refine ⟨by simpa using hd, fun j hj => ?_⟩
    obtain ⟨h0, h1, _⟩ := canB_iff.1 hj
    exact tryF_none h j h0 (by omega) hj

/-- Those that may go on, among the first ones. -/
def canL (ns : List Nd) (k : Nat) : List Int := ((List.range k).filter fun (j : Nat) => canB ns (j : Int)).map fun (j : Nat) => (j : Int)

theorem canL_succ (ns : List Nd) (k : Nat) : canL ns (k + 1) = canL ns k ++ (if canB ns (k : Int) then [(k : Int)] else []) := by
  unfold canL
  rw [List.range_succ, List.filter_append, List.map_append]
  cases h : canB ns (k : Int) <;> simp [h]

theorem canL_len (ns : List Nd) (k : Nat) : (canL ns k).length ≤ k := by
  unfold canL
  rw [List.length_map]
  exact Nat.le_trans (List.length_filter_le _ _) (by simp)

theorem canL_mem {ns : List Nd} {k : Nat} {x : Int} (h : x ∈ canL ns k) : canB ns x = true := by
  unfold canL at h
  obtain ⟨j, hj, rfl⟩ := List.mem_map.1 h
  exact (List.mem_filter.1 hj).2

theorem canL_nil {ns : List Nd} (h : (canL ns ns.length).length = 0) : doneTo ns ns.length = true := by
  unfold doneTo
  rw [List.all_eq_true]
  intro j hj
  cases hc : canB ns (j : Int) with
  | false => rfl
  | true =>
    have : (j : Int) ∈ canL ns ns.length := List.mem_map.2 ⟨j, List.mem_filter.2 ⟨hj, hc⟩, rfl⟩
    rw [List.length_eq_zero_iff.1 h] at this
    cases this

theorem plan_14 {ns : List Nd} {es : List Ed} (h : (planS ns es).2 = 14) : checkS ns es = 0 ∧ path es ns = none := by
  unfold planS at h
  split at h
  · rename_i hc
    split at h
    · cases h
    · rename_i hp; exact ⟨hc, hp⟩
  · rename_i hc
    exfalso
    simp only at h
    unfold checkS at h
    repeat' split at h
    all_goals omega

def fitE (ms : List Nd) (e : Ed) : Bool := fitS (ms.getD e.f.toNat default) (ms.getD e.t.toNat default)

theorem right_of {ms : List Nd} {es : List Ed} (h1 : es.all (okE ms) = true) (h2 : es.all (fitE ms) = true) : rightS ms es = true := by
  rw [rightS_all, List.all_eq_true]
  intro e he
  rw [List.all_eq_true.1 h1 e he]
  exact List.all_eq_true.1 h2 e he


theorem none_pc (ns : List Nd) (es : List Ed) (wk : List Int) (hn : ns.length < 9223372036854775808) (he : es.length < 9223372036854775808) (hw : wk.length < 9223372036854775808) : ACalls Try.prog 8 [.ds true (ns.flatMap encN) ns.length false, .ds true (es.flatMap encE) es.length false, .ds true (wk.flatMap encI) wk.length false] [] (fun r _ => r = .bool true) := by
  refine acalls_pure (rs := [.tmp 6]) tok Try.func8 rfl Try.ntmps8 rfl Try.call8 (by simp) ?_
  refine reg tok [true, true, true] fun K hK => ?_
  simp only [go_sem, Nat.reduceLT, Nat.reduceLeDiff, Nat.reduceEqDiff, Nat.reduceAdd, Nat.reduceMul, Nat.reduceSub, reduceIte, reduceCtorEq, encE]
  refine hK _ _ ?_
  clear hK K
  refine awp_seq_k fun Z1 hZ1 => ?_
  refine awp_seq_k fun K hK => ?_
  refine awp_region ?_
  refine opsRunN tok 4 ?_
  simp only [go_sem, Nat.reduceLT, Nat.reduceLeDiff, Nat.reduceEqDiff, Nat.reduceAdd, Nat.reduceMul, Nat.reduceSub, reduceIte, reduceCtorEq, encE]
  refine ops_if 18 rfl (fun hg18 => ?_) (fun hg18 => ?_)
  · skip
    refine opsRunN tok 4 ?_
    simp only [go_sem, Nat.reduceLT, Nat.reduceLeDiff, Nat.reduceEqDiff, Nat.reduceAdd, Nat.reduceMul, Nat.reduceSub, reduceIte, reduceCtorEq, encE]
    refine opsWp_nil ?_
    refine hK _ _ (awp_keepM [true, true, true, false, false, false, false, false, false, false, false, false, false, false, false, false, false, false, false, false, false, false, true] ?_)
    clear hK K
    try simp only [go_sem, Nat.reduceLT, Nat.reduceLeDiff, Nat.reduceEqDiff, Nat.reduceAdd, Nat.reduceMul, Nat.reduceSub, reduceIte, reduceCtorEq]
    refine awp_cond_t rfl ?_
    refine awp_seq_k fun K hK => ?_
    refine awp_region ?_
    refine opsWp_callD rfl rfl rfl (awake_pc_ev _) ?_
    rintro _ _ ⟨rfl, rfl⟩
    refine opsRunN tok 1 ?_
    simp only [go_sem, Nat.reduceLT, Nat.reduceLeDiff, Nat.reduceEqDiff, Nat.reduceAdd, Nat.reduceMul, Nat.reduceSub, reduceIte, reduceCtorEq, encE]
    refine opsWp_nil ?_
    refine hK _ _ (awp_keepM [false, false, false, false, false, false, true] ?_)
    clear hK K
    try simp only [go_sem, Nat.reduceLT, Nat.reduceLeDiff, Nat.reduceEqDiff, Nat.reduceAdd, Nat.reduceMul, Nat.reduceSub, reduceIte, reduceCtorEq]
    refine awp_ret ?_
    simp only [retQ, resAll, resOne, resAV, exists_eq_left', go_sem, Nat.reduceLT, Nat.reduceLeDiff, Nat.reduceEqDiff, Nat.reduceAdd, Nat.reduceMul, Nat.reduceSub, reduceIte, reduceCtorEq, encE]
    first | rfl | (exfalso; simp_all; done)
  · skip
    refine opsRunN tok 4 ?_
    simp only [go_sem, Nat.reduceLT, Nat.reduceLeDiff, Nat.reduceEqDiff, Nat.reduceAdd, Nat.reduceMul, Nat.reduceSub, reduceIte, reduceCtorEq, encE]
    refine opsWp_nil ?_
    refine hK _ _ (awp_keepM [true, true, true, false, false, false, false, false, false, false, false, false, false, false, false, false, false, false, false, false, false, false, true] ?_)
    clear hK K
    try simp only [go_sem, Nat.reduceLT, Nat.reduceLeDiff, Nat.reduceEqDiff, Nat.reduceAdd, Nat.reduceMul, Nat.reduceSub, reduceIte, reduceCtorEq]
    refine awp_if rfl (fun hcc2 => ?_) (fun hcc2 => ?_)
    · skip
      refine awp_seq_k fun K hK => ?_
      refine awp_region ?_
      refine opsWp_callD rfl rfl rfl (awake_pc_ev _) ?_
      rintro _ _ ⟨rfl, rfl⟩
      refine opsRunN tok 1 ?_
      simp only [go_sem, Nat.reduceLT, Nat.reduceLeDiff, Nat.reduceEqDiff, Nat.reduceAdd, Nat.reduceMul, Nat.reduceSub, reduceIte, reduceCtorEq, encE]
      refine opsWp_nil ?_
      refine hK _ _ (awp_keepM [false, false, false, false, false, false, true] ?_)
      clear hK K
      try simp only [go_sem, Nat.reduceLT, Nat.reduceLeDiff, Nat.reduceEqDiff, Nat.reduceAdd, Nat.reduceMul, Nat.reduceSub, reduceIte, reduceCtorEq]
      refine awp_ret ?_
      simp only [retQ, resAll, resOne, resAV, exists_eq_left', go_sem, Nat.reduceLT, Nat.reduceLeDiff, Nat.reduceEqDiff, Nat.reduceAdd, Nat.reduceMul, Nat.reduceSub, reduceIte, reduceCtorEq, encE]
      first | rfl | (exfalso; simp_all; done)
    · skip
      refine awp_skip ?_
      refine hZ1 _ _ ?_
      refine awp_seq_k fun Z2 hZ2 => ?_
      have hn20 : ns.length ≤ 20 := by omega
      have he100 : es.length ≤ 100 := by omega
      refine awp_seq_k fun K hK => ?_
      refine awp_region ?_
      refine opsRunN tok 1 ?_
      simp only [go_sem, Nat.reduceLT, Nat.reduceLeDiff, Nat.reduceEqDiff, Nat.reduceAdd, Nat.reduceMul, Nat.reduceSub, reduceIte, reduceCtorEq, encE]
      refine opsWp_callD rfl rfl rfl (nodes_pc_ev _ (by first | assumption | omega | (simp; done)) _) ?_
      rintro _ _ ⟨rfl, rfl⟩
      refine opsRunN tok 1 ?_
      simp only [go_sem, Nat.reduceLT, Nat.reduceLeDiff, Nat.reduceEqDiff, Nat.reduceAdd, Nat.reduceMul, Nat.reduceSub, reduceIte, reduceCtorEq, encE]
      refine opsWp_callD rfl rfl rfl (edges_pc_ev _ (by first | assumption | omega | (simp; done)) _) ?_
      rintro _ _ ⟨rfl, rfl⟩
      refine opsWp_callD rfl rfl rfl (plan_pc_ev _ _ (by first | assumption | omega | (simp; done)) (by first | assumption | omega | (simp; done)) _) ?_
      rintro _ _ ⟨rfl, rfl⟩
      refine opsRunN tok 5 ?_
      simp only [go_sem, Nat.reduceLT, Nat.reduceLeDiff, Nat.reduceEqDiff, Nat.reduceAdd, Nat.reduceMul, Nat.reduceSub, reduceIte, reduceCtorEq, encE]
      refine opsWp_nil ?_
      refine hK _ _ (awp_keepM [true, true, true, false, false, false, false, false, true] ?_)
      clear hK K
      try simp only [go_sem, Nat.reduceLT, Nat.reduceLeDiff, Nat.reduceEqDiff, Nat.reduceAdd, Nat.reduceMul, Nat.reduceSub, reduceIte, reduceCtorEq]
      refine reg tok [true, true, true, false, false, false, false, false, false, false, false, false, false, false, false, false, false, false, false, false, false, false, false, false, false, false, false, false, false, false, false, false, false, true] fun K hK => ?_
      simp only [go_sem, Nat.reduceLT, Nat.reduceLeDiff, Nat.reduceEqDiff, Nat.reduceAdd, Nat.reduceMul, Nat.reduceSub, reduceIte, reduceCtorEq, encE]
      refine hK _ _ ?_
      clear hK K
      refine awp_if rfl (fun hcc4 => ?_) (fun hcc4 => ?_)
      · skip
        refine awp_seq_k fun K hK => ?_
        refine awp_region ?_
        refine opsWp_callD rfl rfl rfl (awake_pc_ev _) ?_
        rintro _ _ ⟨rfl, rfl⟩
        refine opsRunN tok 1 ?_
        simp only [go_sem, Nat.reduceLT, Nat.reduceLeDiff, Nat.reduceEqDiff, Nat.reduceAdd, Nat.reduceMul, Nat.reduceSub, reduceIte, reduceCtorEq, encE]
        refine opsWp_nil ?_
        refine hK _ _ (awp_keepM [false, false, false, false, false, false, true] ?_)
        clear hK K
        try simp only [go_sem, Nat.reduceLT, Nat.reduceLeDiff, Nat.reduceEqDiff, Nat.reduceAdd, Nat.reduceMul, Nat.reduceSub, reduceIte, reduceCtorEq]
        refine awp_ret ?_
        simp only [retQ, resAll, resOne, resAV, exists_eq_left', go_sem, Nat.reduceLT, Nat.reduceLeDiff, Nat.reduceEqDiff, Nat.reduceAdd, Nat.reduceMul, Nat.reduceSub, reduceIte, reduceCtorEq, encE]
        first | rfl | (exfalso; simp_all; done)
      · skip
        refine awp_skip ?_
        refine hZ2 _ _ ?_
        have hp14 : (planS ns es).2 = 14 := by simpa using hcc4
        obtain ⟨hck, hpath⟩ := plan_14 hp14
        obtain ⟨hl6, he64, hok, hoke, hprod⟩ := check_ok hck
        refine awp_seq_k fun K hK => ?_
        refine awp_region ?_
        refine opsRunN tok 1 ?_
        simp only [go_sem, Nat.reduceLT, Nat.reduceLeDiff, Nat.reduceEqDiff, Nat.reduceAdd, Nat.reduceMul, Nat.reduceSub, reduceIte, reduceCtorEq, encE]
        refine opsWp_callD rfl rfl rfl (nodes_own ns (by omega)) ?_
        rintro _ _ ⟨rfl, rfl⟩
        refine opsRunN tok 1 ?_
        simp only [go_sem, Nat.reduceLT, Nat.reduceLeDiff, Nat.reduceEqDiff, Nat.reduceAdd, Nat.reduceMul, Nat.reduceSub, reduceIte, reduceCtorEq, encE]
        refine opsWp_nil ?_
        refine hK _ _ (awp_keepM [false, true, true, false, false, false, false, false, false, true] ?_)
        clear hK K
        try simp only [go_sem, Nat.reduceLT, Nat.reduceLeDiff, Nat.reduceEqDiff, Nat.reduceAdd, Nat.reduceMul, Nat.reduceSub, reduceIte, reduceCtorEq]
        refine awp_seq_k fun Z3 hZ3 => ?_
        refine reg tok [false, true, true, false, false, false, false, false, false, true, true] fun K hK => ?_
        simp only [go_sem, Nat.reduceLT, Nat.reduceLeDiff, Nat.reduceEqDiff, Nat.reduceAdd, Nat.reduceMul, Nat.reduceSub, reduceIte, reduceCtorEq, encE]
        refine hK _ _ ?_
        clear hK K
        refine awp_block ?_
        refine awp_loopT (fun m L τ => ∃ (i : Nat) (ms : List Nd), m = 82 - i ∧ L = ([.u, (.ds true (es.flatMap encE) es.length false), (.ds true (wk.flatMap encI) wk.length false), .u, .u, .u, .u, .u, .u, (.os true 3 0 0 0 ns.length false), (.int .i64 i)] : List AV) ∧ τ = ([.cells 0 (ms.flatMap encN)] : Store) ∧ path es ms = none ∧ ms.all okN = true ∧ ms.length = ns.length) _ ⟨0, ns, rfl, rfl, rfl, by exact ⟨hpath, hok, rfl⟩⟩ ?_ ?_
        · exact Tells.mk' [0] false 12 (by decide) (by simp) (by first | rfl | simp) (by first | rfl | simp [tell_u, tell_bool, tell_int, tell_str, tell_nilp, tell_nilm, tell_nilI, tell_nilF, tell_agg, tell_tup, tell_ifc, tell_ds, tell_dp, tell_op, tell_os, tell_mp, idxOf_nil, idxOf_cons, tellS_nil, tellS_cons, tellO_cells, tellO_map, tellO_iter, tellO_dead, store_get0, store_getS, tell_canonL, tell_canon, canonL, AV.canon, Bool.or_true, Bool.or_false, Bool.and_true, Bool.and_false, Bool.not_true, Bool.not_false, Option.some.injEq, canonL_N, canonL_E, canonL_encI, encI, encE]) ⟨.inl rfl, .inr (by first | exact tell_canon _ _ _ (.ds true (es.flatMap encE) es.length false) 12 (by simp [AV.canon, canonL, canonL_N, canonL_E, canonL_encI, encI, encE]) | rfl | simp [go_sem, tell_u, tell_bool, tell_int, tell_str, tell_nilp, tell_nilm, tell_nilI, tell_nilF, tell_agg, tell_tup, tell_ifc, tell_ds, tell_dp, tell_op, tell_os, tell_mp, idxOf_nil, idxOf_cons, tellS_nil, tellS_cons, tellO_cells, tellO_map, tellO_iter, tellO_dead, store_get0, store_getS, tell_canonL, tell_canon, canonL, AV.canon, Bool.or_true, Bool.or_false, Bool.and_true, Bool.and_false, Bool.not_true, Bool.not_false, Option.some.injEq, canonL_N, canonL_E, canonL_encI, encI, encE]), .inr (by first | exact tell_canon _ _ _ (.ds true (wk.flatMap encI) wk.length false) 12 (by simp [AV.canon, canonL, canonL_N, canonL_E, canonL_encI, encI, encE]) | rfl | simp [go_sem, tell_u, tell_bool, tell_int, tell_str, tell_nilp, tell_nilm, tell_nilI, tell_nilF, tell_agg, tell_tup, tell_ifc, tell_ds, tell_dp, tell_op, tell_os, tell_mp, idxOf_nil, idxOf_cons, tellS_nil, tellS_cons, tellO_cells, tellO_map, tellO_iter, tellO_dead, store_get0, store_getS, tell_canonL, tell_canon, canonL, AV.canon, Bool.or_true, Bool.or_false, Bool.and_true, Bool.and_false, Bool.not_true, Bool.not_false, Option.some.injEq, canonL_N, canonL_E, canonL_encI, encI, encE]), .inl rfl, .inl rfl, .inl rfl, .inl rfl, .inl rfl, .inl rfl, .inr (by first | rfl | simp [go_sem, tell_u, tell_bool, tell_int, tell_str, tell_nilp, tell_nilm, tell_nilI, tell_nilF, tell_agg, tell_tup, tell_ifc, tell_ds, tell_dp, tell_op, tell_os, tell_mp, idxOf_nil, idxOf_cons, tellS_nil, tellS_cons, tellO_cells, tellO_map, tellO_iter, tellO_dead, store_get0, store_getS, tell_canonL, tell_canon, canonL, AV.canon, Bool.or_true, Bool.or_false, Bool.and_true, Bool.and_false, Bool.not_true, Bool.not_false, Option.some.injEq]), .inr (by first | exact tell_canon _ _ _ (.int .i64 i) 12 (by simp [AV.canon, canonL, canonL_N, canonL_E, canonL_encI, encI, encE]) | rfl | simp [go_sem, tell_u, tell_bool, tell_int, tell_str, tell_nilp, tell_nilm, tell_nilI, tell_nilF, tell_agg, tell_tup, tell_ifc, tell_ds, tell_dp, tell_op, tell_os, tell_mp, idxOf_nil, idxOf_cons, tellS_nil, tellS_cons, tellO_cells, tellO_map, tellO_iter, tellO_dead, store_get0, store_getS, tell_canonL, tell_canon, canonL, AV.canon, Bool.or_true, Bool.or_false, Bool.and_true, Bool.and_false, Bool.not_true, Bool.not_false, Option.some.injEq, canonL_N, canonL_E, canonL_encI, encI, encE]), trivial⟩
        rintro m L τ ⟨i, ms, rfl, rfl, rfl, hp, hok', hlen⟩
        refine awp_seq_k fun Z4 hZ4 => ?_
        refine reg tok [false, true, true, false, false, false, false, false, false, true, true, false, false, false, false, false, false, false, false, false, false, false, false, false, false, false, false, false, false, false, false, false, false, false, false, false, false, false, true] fun K hK => ?_
        simp only [go_sem, Nat.reduceLT, Nat.reduceLeDiff, Nat.reduceEqDiff, Nat.reduceAdd, Nat.reduceMul, Nat.reduceSub, reduceIte, reduceCtorEq, encE]
        refine hK _ _ ?_
        clear hK K
        refine awp_if rfl (fun hcc8 => ?_) (fun hcc8 => ?_)
        · skip
          have hwi : IntKind.i64.wrap ((i : Int) + 1) = ((i + 1 : Nat) : Int) := by rw [i64_in (by omega) (by omega)]; simp
          refine awp_skip ?_
          refine hZ4 _ _ ?_
          refine awp_seq_k fun Z5 hZ5 => ?_
          refine awp_block ?_
          refine awp_seq_k fun Z6 hZ6 => ?_
          refine reg tok [false, true, true, false, false, false, false, false, false, true, true, true] fun K hK => ?_
          simp only [go_sem, Nat.reduceLT, Nat.reduceLeDiff, Nat.reduceEqDiff, Nat.reduceAdd, Nat.reduceMul, Nat.reduceSub, reduceIte, reduceCtorEq, encE, hwi]
          refine hK _ _ ?_
          clear hK K
          refine awp_block ?_
          refine awp_loopT (fun m L τ => ∃ pre post, m = post.length ∧ L = ([.u, (.ds true (es.flatMap encE) es.length false), (.ds true (wk.flatMap encI) wk.length false), .u, .u, .u, .u, .u, .u, (.os true 3 0 0 0 ns.length false), (.int .i64 i), (.int .i64 pre.length)] : List AV) ∧ τ = ([.cells 0 (ms.flatMap encN)] : Store) ∧ es = pre ++ post ∧ pre.all (fitE ms) = true) _ ⟨[], es, rfl, rfl, rfl, by simp⟩ ?_ ?_
          · exact Tells.mk' [0] false 12 (by decide) (by simp) (by first | rfl | simp) (by first | rfl | simp [tell_u, tell_bool, tell_int, tell_str, tell_nilp, tell_nilm, tell_nilI, tell_nilF, tell_agg, tell_tup, tell_ifc, tell_ds, tell_dp, tell_op, tell_os, tell_mp, idxOf_nil, idxOf_cons, tellS_nil, tellS_cons, tellO_cells, tellO_map, tellO_iter, tellO_dead, store_get0, store_getS, tell_canonL, tell_canon, canonL, AV.canon, Bool.or_true, Bool.or_false, Bool.and_true, Bool.and_false, Bool.not_true, Bool.not_false, Option.some.injEq, canonL_N, canonL_E, canonL_encI, encI, encE]) ⟨.inl rfl, .inr (by first | exact tell_canon _ _ _ (.ds true (es.flatMap encE) es.length false) 12 (by simp [AV.canon, canonL, canonL_N, canonL_E, canonL_encI, encI, encE]) | rfl | simp [go_sem, tell_u, tell_bool, tell_int, tell_str, tell_nilp, tell_nilm, tell_nilI, tell_nilF, tell_agg, tell_tup, tell_ifc, tell_ds, tell_dp, tell_op, tell_os, tell_mp, idxOf_nil, idxOf_cons, tellS_nil, tellS_cons, tellO_cells, tellO_map, tellO_iter, tellO_dead, store_get0, store_getS, tell_canonL, tell_canon, canonL, AV.canon, Bool.or_true, Bool.or_false, Bool.and_true, Bool.and_false, Bool.not_true, Bool.not_false, Option.some.injEq, canonL_N, canonL_E, canonL_encI, encI, encE]), .inr (by first | exact tell_canon _ _ _ (.ds true (wk.flatMap encI) wk.length false) 12 (by simp [AV.canon, canonL, canonL_N, canonL_E, canonL_encI, encI, encE]) | rfl | simp [go_sem, tell_u, tell_bool, tell_int, tell_str, tell_nilp, tell_nilm, tell_nilI, tell_nilF, tell_agg, tell_tup, tell_ifc, tell_ds, tell_dp, tell_op, tell_os, tell_mp, idxOf_nil, idxOf_cons, tellS_nil, tellS_cons, tellO_cells, tellO_map, tellO_iter, tellO_dead, store_get0, store_getS, tell_canonL, tell_canon, canonL, AV.canon, Bool.or_true, Bool.or_false, Bool.and_true, Bool.and_false, Bool.not_true, Bool.not_false, Option.some.injEq, canonL_N, canonL_E, canonL_encI, encI, encE]), .inl rfl, .inl rfl, .inl rfl, .inl rfl, .inl rfl, .inl rfl, .inr (by first | rfl | simp [go_sem, tell_u, tell_bool, tell_int, tell_str, tell_nilp, tell_nilm, tell_nilI, tell_nilF, tell_agg, tell_tup, tell_ifc, tell_ds, tell_dp, tell_op, tell_os, tell_mp, idxOf_nil, idxOf_cons, tellS_nil, tellS_cons, tellO_cells, tellO_map, tellO_iter, tellO_dead, store_get0, store_getS, tell_canonL, tell_canon, canonL, AV.canon, Bool.or_true, Bool.or_false, Bool.and_true, Bool.and_false, Bool.not_true, Bool.not_false, Option.some.injEq]), .inr (by first | exact tell_canon _ _ _ (.int .i64 i) 12 (by simp [AV.canon, canonL, canonL_N, canonL_E, canonL_encI, encI, encE]) | rfl | simp [go_sem, tell_u, tell_bool, tell_int, tell_str, tell_nilp, tell_nilm, tell_nilI, tell_nilF, tell_agg, tell_tup, tell_ifc, tell_ds, tell_dp, tell_op, tell_os, tell_mp, idxOf_nil, idxOf_cons, tellS_nil, tellS_cons, tellO_cells, tellO_map, tellO_iter, tellO_dead, store_get0, store_getS, tell_canonL, tell_canon, canonL, AV.canon, Bool.or_true, Bool.or_false, Bool.and_true, Bool.and_false, Bool.not_true, Bool.not_false, Option.some.injEq, canonL_N, canonL_E, canonL_encI, encI, encE]), .inr (by first | exact tell_canon _ _ _ (.int .i64 pre.length) 12 (by simp [AV.canon, canonL, canonL_N, canonL_E, canonL_encI, encI, encE]) | rfl | simp [go_sem, tell_u, tell_bool, tell_int, tell_str, tell_nilp, tell_nilm, tell_nilI, tell_nilF, tell_agg, tell_tup, tell_ifc, tell_ds, tell_dp, tell_op, tell_os, tell_mp, idxOf_nil, idxOf_cons, tellS_nil, tellS_cons, tellO_cells, tellO_map, tellO_iter, tellO_dead, store_get0, store_getS, tell_canonL, tell_canon, canonL, AV.canon, Bool.or_true, Bool.or_false, Bool.and_true, Bool.and_false, Bool.not_true, Bool.not_false, Option.some.injEq, canonL_N, canonL_E, canonL_encI, encI, encE]), trivial⟩
          rintro m L τ ⟨pre, post, rfl, rfl, rfl, hE2, hfit⟩
          rcases post with _ | ⟨e, post⟩
          · have hzf7 := z_false hE2
            refine awp_seq_k fun Z8 hZ8 => ?_
            refine reg tok [false, true, true, false, false, false, false, false, false, true, true, true, false, false, false, false, false, false, false, false, false, false, false, false, false, false, false, false, false, false, false, false, false, false, false, false, false, false, false, false, false, false, false, false, true] fun K hK => ?_
            simp only [go_sem, Nat.reduceLT, Nat.reduceLeDiff, Nat.reduceEqDiff, Nat.reduceAdd, Nat.reduceMul, Nat.reduceSub, reduceIte, reduceCtorEq, encE, hwi, hzf7]
            refine hK _ _ ?_
            clear hK K
            refine awp_cond_f rfl ?_
            refine awp_exit ?_
            refine hZ6 _ _ ?_
            have hes : es = pre := by simpa using hE2
            have hright : rightS ms es = true := right_of (by rw [okE_len hlen]; exact hoke) (by rw [hes]; exact hfit)
            obtain ⟨hnd, hnx⟩ := path_none hok' hp hright
            refine reg tok [false, true, true, false, false, false, false, false, false, true, true, false, true] fun K hK => ?_
            simp only [go_sem, Nat.reduceLT, Nat.reduceLeDiff, Nat.reduceEqDiff, Nat.reduceAdd, Nat.reduceMul, Nat.reduceSub, reduceIte, reduceCtorEq, encE, hwi, hzf7]
            refine hK _ _ ?_
            clear hK K
            refine awp_virt 12 1 rfl ?_
            simp only [go_sem]
            refine awp_seq_k fun Z9 hZ9 => ?_
            refine reg tok [false, true, true, false, false, false, false, false, false, true, true, false, true, true] fun K hK => ?_
            simp only [go_sem, Nat.reduceLT, Nat.reduceLeDiff, Nat.reduceEqDiff, Nat.reduceAdd, Nat.reduceMul, Nat.reduceSub, reduceIte, reduceCtorEq, encE, hwi, hzf7]
            refine hK _ _ ?_
            clear hK K
            refine awp_block ?_
            refine awp_loopT (fun m L τ => ∃ (j ver : Nat) (can : List Int), m = ms.length + 1 - j ∧ L = ([.u, (.ds true (es.flatMap encE) es.length false), (.ds true (wk.flatMap encI) wk.length false), .u, .u, .u, .u, .u, .u, (.os true 3 0 0 0 ns.length false), (.int .i64 i), .u, (.os true 1 1 ver 0 can.length false), (.int .i64 j)] : List AV) ∧ τ = ([.cells 0 (ms.flatMap encN), .cells ver (can.flatMap encI)] : Store) ∧ j ≤ ms.length ∧ can = canL ms j) _ ⟨0, 0, [], rfl, rfl, rfl, by exact ⟨by omega, rfl⟩⟩ ?_ ?_
            · exact Tells.mk' [0, 1] false 12 (by decide) (by simp) (by first | rfl | simp) (by first | rfl | simp [tell_u, tell_bool, tell_int, tell_str, tell_nilp, tell_nilm, tell_nilI, tell_nilF, tell_agg, tell_tup, tell_ifc, tell_ds, tell_dp, tell_op, tell_os, tell_mp, idxOf_nil, idxOf_cons, tellS_nil, tellS_cons, tellO_cells, tellO_map, tellO_iter, tellO_dead, store_get0, store_getS, tell_canonL, tell_canon, canonL, AV.canon, Bool.or_true, Bool.or_false, Bool.and_true, Bool.and_false, Bool.not_true, Bool.not_false, Option.some.injEq, canonL_N, canonL_E, canonL_encI, encI, encE]) ⟨.inl rfl, .inr (by first | exact tell_canon _ _ _ (.ds true (es.flatMap encE) es.length false) 12 (by simp [AV.canon, canonL, canonL_N, canonL_E, canonL_encI, encI, encE]) | rfl | simp [go_sem, tell_u, tell_bool, tell_int, tell_str, tell_nilp, tell_nilm, tell_nilI, tell_nilF, tell_agg, tell_tup, tell_ifc, tell_ds, tell_dp, tell_op, tell_os, tell_mp, idxOf_nil, idxOf_cons, tellS_nil, tellS_cons, tellO_cells, tellO_map, tellO_iter, tellO_dead, store_get0, store_getS, tell_canonL, tell_canon, canonL, AV.canon, Bool.or_true, Bool.or_false, Bool.and_true, Bool.and_false, Bool.not_true, Bool.not_false, Option.some.injEq, canonL_N, canonL_E, canonL_encI, encI, encE]), .inr (by first | exact tell_canon _ _ _ (.ds true (wk.flatMap encI) wk.length false) 12 (by simp [AV.canon, canonL, canonL_N, canonL_E, canonL_encI, encI, encE]) | rfl | simp [go_sem, tell_u, tell_bool, tell_int, tell_str, tell_nilp, tell_nilm, tell_nilI, tell_nilF, tell_agg, tell_tup, tell_ifc, tell_ds, tell_dp, tell_op, tell_os, tell_mp, idxOf_nil, idxOf_cons, tellS_nil, tellS_cons, tellO_cells, tellO_map, tellO_iter, tellO_dead, store_get0, store_getS, tell_canonL, tell_canon, canonL, AV.canon, Bool.or_true, Bool.or_false, Bool.and_true, Bool.and_false, Bool.not_true, Bool.not_false, Option.some.injEq, canonL_N, canonL_E, canonL_encI, encI, encE]), .inl rfl, .inl rfl, .inl rfl, .inl rfl, .inl rfl, .inl rfl, .inr (by first | rfl | simp [go_sem, tell_u, tell_bool, tell_int, tell_str, tell_nilp, tell_nilm, tell_nilI, tell_nilF, tell_agg, tell_tup, tell_ifc, tell_ds, tell_dp, tell_op, tell_os, tell_mp, idxOf_nil, idxOf_cons, tellS_nil, tellS_cons, tellO_cells, tellO_map, tellO_iter, tellO_dead, store_get0, store_getS, tell_canonL, tell_canon, canonL, AV.canon, Bool.or_true, Bool.or_false, Bool.and_true, Bool.and_false, Bool.not_true, Bool.not_false, Option.some.injEq]), .inr (by first | exact tell_canon _ _ _ (.int .i64 i) 12 (by simp [AV.canon, canonL, canonL_N, canonL_E, canonL_encI, encI, encE]) | rfl | simp [go_sem, tell_u, tell_bool, tell_int, tell_str, tell_nilp, tell_nilm, tell_nilI, tell_nilF, tell_agg, tell_tup, tell_ifc, tell_ds, tell_dp, tell_op, tell_os, tell_mp, idxOf_nil, idxOf_cons, tellS_nil, tellS_cons, tellO_cells, tellO_map, tellO_iter, tellO_dead, store_get0, store_getS, tell_canonL, tell_canon, canonL, AV.canon, Bool.or_true, Bool.or_false, Bool.and_true, Bool.and_false, Bool.not_true, Bool.not_false, Option.some.injEq, canonL_N, canonL_E, canonL_encI, encI, encE]), .inl rfl, .inr (by first | rfl | simp [go_sem, tell_u, tell_bool, tell_int, tell_str, tell_nilp, tell_nilm, tell_nilI, tell_nilF, tell_agg, tell_tup, tell_ifc, tell_ds, tell_dp, tell_op, tell_os, tell_mp, idxOf_nil, idxOf_cons, tellS_nil, tellS_cons, tellO_cells, tellO_map, tellO_iter, tellO_dead, store_get0, store_getS, tell_canonL, tell_canon, canonL, AV.canon, Bool.or_true, Bool.or_false, Bool.and_true, Bool.and_false, Bool.not_true, Bool.not_false, Option.some.injEq]), .inr (by first | exact tell_canon _ _ _ (.int .i64 j) 12 (by simp [AV.canon, canonL, canonL_N, canonL_E, canonL_encI, encI, encE]) | rfl | simp [go_sem, tell_u, tell_bool, tell_int, tell_str, tell_nilp, tell_nilm, tell_nilI, tell_nilF, tell_agg, tell_tup, tell_ifc, tell_ds, tell_dp, tell_op, tell_os, tell_mp, idxOf_nil, idxOf_cons, tellS_nil, tellS_cons, tellO_cells, tellO_map, tellO_iter, tellO_dead, store_get0, store_getS, tell_canonL, tell_canon, canonL, AV.canon, Bool.or_true, Bool.or_false, Bool.and_true, Bool.and_false, Bool.not_true, Bool.not_false, Option.some.injEq, canonL_N, canonL_E, canonL_encI, encI, encE]), trivial⟩
            rintro m L τ ⟨j, ver, can, rfl, rfl, rfl, hj, hcn⟩
            refine awp_seq_k fun Z10 hZ10 => ?_
            refine reg tok [false, true, true, false, false, false, false, false, false, true, true, false, true, true, false, false, false, false, false, false, false, false, false, false, false, false, false, false, false, false, false, false, false, false, false, false, false, false, false, false, false, false, false, false, false, false, false, false, false, false, false, false, false, false, false, false, false, false, false, false, false, false, false, false, false, false, false, false, false, true] fun K hK => ?_
            simp only [go_sem, Nat.reduceLT, Nat.reduceLeDiff, Nat.reduceEqDiff, Nat.reduceAdd, Nat.reduceMul, Nat.reduceSub, reduceIte, reduceCtorEq, encE, hwi, hzf7]
            refine hK _ _ ?_
            clear hK K
            refine awp_if rfl (fun hcc17 => ?_) (fun hcc17 => ?_)
            · skip
              have hjl : j < ms.length := by omega
              have hwj : IntKind.i64.wrap ((j : Int) + 1) = ((j + 1 : Nat) : Int) := by rw [i64_in (by omega) (by omega)]; simp
              have qo := fun nl tt q sz id ver off => encN_E.idxo (len := ns.length) (k := (j : Int)) (by omega) (by omega) nl tt q sz id ver off
              have q0 := fun n => enc_rd0 (n := n) encN_E.len (l := ms) (k := j) hjl (by decide)
              have q1 := fun n => enc_rd (n := n) (o := 1) encN_E.len (l := ms) (k := j) hjl (by decide)
              have hcl := canL_len ms j
              rw [← hcn] at hcl
              have a1 : ((can.length + 1) * 8 ≤ 140737488355328) = True := eq_true (by omega)
              have a2 : (can.flatMap encI).length = can.length * 1 := enc_length (enc := encI) (sz := 1) (fun _ => rfl) _
              refine awp_skip ?_
              refine hZ10 _ _ ?_
              refine awp_seq_k fun Z11 hZ11 => ?_
              refine awp_block ?_
              refine awp_seq_k fun K hK => ?_
              refine DW.start (T := tab) [.any, .any, .any, .any, .at [], .any, .any, .any, .any, .at [], .any] [] ?_
              refine DW.runN tok 8 ?_
              simp only [go_sem, Nat.reduceLT, Nat.reduceLeDiff, Nat.reduceEqDiff, Nat.reduceAdd, Nat.reduceMul, Nat.reduceSub, reduceIte, reduceCtorEq, encE, hwi, hzf7, hwj, qo, q0, q1, encN, Int.toNat_natCast]
              refine DW.runN tok 3 ?_
              simp only [go_sem, Nat.reduceLT, Nat.reduceLeDiff, Nat.reduceEqDiff, Nat.reduceAdd, Nat.reduceMul, Nat.reduceSub, reduceIte, reduceCtorEq, encE, hwi, hzf7, hwj, qo, q0, q1, encN, Int.toNat_natCast]
              refine DW.fin tok (by decide +kernel) rfl ?_
              refine hK _ _ (awp_keepM [false, true, true, false, false, false, false, false, false, true, true, false, true, true, false, false, false, false, false, false, false, false, false, false, false, false, false, false, false, false, false, false, false, false, false, false, false, false, false, false, false, false, false, false, false, false, false, false, false, false, false, false, false, false, false, false, false, false, false, false, false, false, false, false, false, false, false, false, false, false, false, false, false, false, false, false, false, false, false, false, false, false, true] ?_)
              clear hK K
              try simp only [go_sem, Nat.reduceLT, Nat.reduceLeDiff, Nat.reduceEqDiff, Nat.reduceAdd, Nat.reduceMul, Nat.reduceSub, reduceIte, reduceCtorEq]
              refine awp_if rfl (fun hcc19 => ?_) (fun hcc19 => ?_)
              · skip
                have hcj : canB ms (j : Int) = true := canB_nat.2 ⟨hjl, hcc19⟩
                have hcs : canL ms (j + 1) = canL ms j ++ [(j : Int)] := by rw [canL_succ, hcj]; rfl
                refine regEnd tok ?_
                simp only [go_sem, Nat.reduceLT, Nat.reduceLeDiff, Nat.reduceEqDiff, Nat.reduceAdd, Nat.reduceMul, Nat.reduceSub, reduceIte, reduceCtorEq, evBuildSlice, zeroRun, evAppendTo, lenOfAV, srcCells, encE, hwi, hzf7, hwj, evAppend, a1, a2, List.range_succ, List.range_zero, true_and, Nat.reduceMod, encI_one]
                refine hZ11 _ _ ?_
                refine regEnd tok ?_
                simp only [go_sem, Nat.reduceLT, Nat.reduceLeDiff, Nat.reduceEqDiff, Nat.reduceAdd, Nat.reduceMul, Nat.reduceSub, reduceIte, reduceCtorEq, encE, hwi, hzf7, hwj]
                refine ⟨_, _, _, ?_, ⟨j + 1, ver + 1, can ++ [(j : Int)], rfl, rfl, rfl, ?_⟩, ?_⟩
                · omega
                · exact ⟨by omega, by rw [hcs, hcn]⟩
                · exact Tells.mk' [0, 1] false 12 (by decide) (by simp) (by first | rfl | simp) (by first | rfl | simp [tell_u, tell_bool, tell_int, tell_str, tell_nilp, tell_nilm, tell_nilI, tell_nilF, tell_agg, tell_tup, tell_ifc, tell_ds, tell_dp, tell_op, tell_os, tell_mp, idxOf_nil, idxOf_cons, tellS_nil, tellS_cons, tellO_cells, tellO_map, tellO_iter, tellO_dead, store_get0, store_getS, tell_canonL, tell_canon, canonL, AV.canon, Bool.or_true, Bool.or_false, Bool.and_true, Bool.and_false, Bool.not_true, Bool.not_false, Option.some.injEq, canonL_N, canonL_E, canonL_encI, encI, encE]) ⟨.inl rfl, .inr (by first | exact tell_canon _ _ _ (.ds true (es.flatMap encE) es.length false) 12 (by simp [AV.canon, canonL, canonL_N, canonL_E, canonL_encI, encI, encE]) | rfl | simp [go_sem, tell_u, tell_bool, tell_int, tell_str, tell_nilp, tell_nilm, tell_nilI, tell_nilF, tell_agg, tell_tup, tell_ifc, tell_ds, tell_dp, tell_op, tell_os, tell_mp, idxOf_nil, idxOf_cons, tellS_nil, tellS_cons, tellO_cells, tellO_map, tellO_iter, tellO_dead, store_get0, store_getS, tell_canonL, tell_canon, canonL, AV.canon, Bool.or_true, Bool.or_false, Bool.and_true, Bool.and_false, Bool.not_true, Bool.not_false, Option.some.injEq, canonL_N, canonL_E, canonL_encI, encI, encE]), .inr (by first | exact tell_canon _ _ _ (.ds true (wk.flatMap encI) wk.length false) 12 (by simp [AV.canon, canonL, canonL_N, canonL_E, canonL_encI, encI, encE]) | rfl | simp [go_sem, tell_u, tell_bool, tell_int, tell_str, tell_nilp, tell_nilm, tell_nilI, tell_nilF, tell_agg, tell_tup, tell_ifc, tell_ds, tell_dp, tell_op, tell_os, tell_mp, idxOf_nil, idxOf_cons, tellS_nil, tellS_cons, tellO_cells, tellO_map, tellO_iter, tellO_dead, store_get0, store_getS, tell_canonL, tell_canon, canonL, AV.canon, Bool.or_true, Bool.or_false, Bool.and_true, Bool.and_false, Bool.not_true, Bool.not_false, Option.some.injEq, canonL_N, canonL_E, canonL_encI, encI, encE]), .inl rfl, .inl rfl, .inl rfl, .inl rfl, .inl rfl, .inl rfl, .inr (by first | rfl | simp [go_sem, tell_u, tell_bool, tell_int, tell_str, tell_nilp, tell_nilm, tell_nilI, tell_nilF, tell_agg, tell_tup, tell_ifc, tell_ds, tell_dp, tell_op, tell_os, tell_mp, idxOf_nil, idxOf_cons, tellS_nil, tellS_cons, tellO_cells, tellO_map, tellO_iter, tellO_dead, store_get0, store_getS, tell_canonL, tell_canon, canonL, AV.canon, Bool.or_true, Bool.or_false, Bool.and_true, Bool.and_false, Bool.not_true, Bool.not_false, Option.some.injEq]), .inr (by first | exact tell_canon _ _ _ (.int .i64 i) 12 (by simp [AV.canon, canonL, canonL_N, canonL_E, canonL_encI, encI, encE]) | rfl | simp [go_sem, tell_u, tell_bool, tell_int, tell_str, tell_nilp, tell_nilm, tell_nilI, tell_nilF, tell_agg, tell_tup, tell_ifc, tell_ds, tell_dp, tell_op, tell_os, tell_mp, idxOf_nil, idxOf_cons, tellS_nil, tellS_cons, tellO_cells, tellO_map, tellO_iter, tellO_dead, store_get0, store_getS, tell_canonL, tell_canon, canonL, AV.canon, Bool.or_true, Bool.or_false, Bool.and_true, Bool.and_false, Bool.not_true, Bool.not_false, Option.some.injEq, canonL_N, canonL_E, canonL_encI, encI, encE]), .inl rfl, .inr (by first | rfl | simp [go_sem, tell_u, tell_bool, tell_int, tell_str, tell_nilp, tell_nilm, tell_nilI, tell_nilF, tell_agg, tell_tup, tell_ifc, tell_ds, tell_dp, tell_op, tell_os, tell_mp, idxOf_nil, idxOf_cons, tellS_nil, tellS_cons, tellO_cells, tellO_map, tellO_iter, tellO_dead, store_get0, store_getS, tell_canonL, tell_canon, canonL, AV.canon, Bool.or_true, Bool.or_false, Bool.and_true, Bool.and_false, Bool.not_true, Bool.not_false, Option.some.injEq]), .inr (by first | exact tell_canon _ _ _ (.int .i64 j) 12 (by simp [AV.canon, canonL, canonL_N, canonL_E, canonL_encI, encI, encE]) | rfl | simp [go_sem, tell_u, tell_bool, tell_int, tell_str, tell_nilp, tell_nilm, tell_nilI, tell_nilF, tell_agg, tell_tup, tell_ifc, tell_ds, tell_dp, tell_op, tell_os, tell_mp, idxOf_nil, idxOf_cons, tellS_nil, tellS_cons, tellO_cells, tellO_map, tellO_iter, tellO_dead, store_get0, store_getS, tell_canonL, tell_canon, canonL, AV.canon, Bool.or_true, Bool.or_false, Bool.and_true, Bool.and_false, Bool.not_true, Bool.not_false, Option.some.injEq, canonL_N, canonL_E, canonL_encI, encI, encE]), trivial⟩
              · skip
                have hcj : canB ms (j : Int) = false := by
                  cases h : canB ms (j : Int) with
                  | false => rfl
                  | true => exact absurd (canB_nat.1 h).2 hcc19
                have hcs : canL ms (j + 1) = canL ms j := by rw [canL_succ, hcj]; simp
                refine awp_skip ?_
                refine hZ11 _ _ ?_
                refine regEnd tok ?_
                simp only [go_sem, Nat.reduceLT, Nat.reduceLeDiff, Nat.reduceEqDiff, Nat.reduceAdd, Nat.reduceMul, Nat.reduceSub, reduceIte, reduceCtorEq, encE, hwi, hzf7, hwj]
                refine ⟨_, _, _, ?_, ⟨j + 1, ver, can, rfl, rfl, rfl, ?_⟩, ?_⟩
                · omega
                · exact ⟨by omega, by rw [hcs, hcn]⟩
                · exact Tells.mk' [0, 1] false 12 (by decide) (by simp) (by first | rfl | simp) (by first | rfl | simp [tell_u, tell_bool, tell_int, tell_str, tell_nilp, tell_nilm, tell_nilI, tell_nilF, tell_agg, tell_tup, tell_ifc, tell_ds, tell_dp, tell_op, tell_os, tell_mp, idxOf_nil, idxOf_cons, tellS_nil, tellS_cons, tellO_cells, tellO_map, tellO_iter, tellO_dead, store_get0, store_getS, tell_canonL, tell_canon, canonL, AV.canon, Bool.or_true, Bool.or_false, Bool.and_true, Bool.and_false, Bool.not_true, Bool.not_false, Option.some.injEq, canonL_N, canonL_E, canonL_encI, encI, encE]) ⟨.inl rfl, .inr (by first | exact tell_canon _ _ _ (.ds true (es.flatMap encE) es.length false) 12 (by simp [AV.canon, canonL, canonL_N, canonL_E, canonL_encI, encI, encE]) | rfl | simp [go_sem, tell_u, tell_bool, tell_int, tell_str, tell_nilp, tell_nilm, tell_nilI, tell_nilF, tell_agg, tell_tup, tell_ifc, tell_ds, tell_dp, tell_op, tell_os, tell_mp, idxOf_nil, idxOf_cons, tellS_nil, tellS_cons, tellO_cells, tellO_map, tellO_iter, tellO_dead, store_get0, store_getS, tell_canonL, tell_canon, canonL, AV.canon, Bool.or_true, Bool.or_false, Bool.and_true, Bool.and_false, Bool.not_true, Bool.not_false, Option.some.injEq, canonL_N, canonL_E, canonL_encI, encI, encE]), .inr (by first | exact tell_canon _ _ _ (.ds true (wk.flatMap encI) wk.length false) 12 (by simp [AV.canon, canonL, canonL_N, canonL_E, canonL_encI, encI, encE]) | rfl | simp [go_sem, tell_u, tell_bool, tell_int, tell_str, tell_nilp, tell_nilm, tell_nilI, tell_nilF, tell_agg, tell_tup, tell_ifc, tell_ds, tell_dp, tell_op, tell_os, tell_mp, idxOf_nil, idxOf_cons, tellS_nil, tellS_cons, tellO_cells, tellO_map, tellO_iter, tellO_dead, store_get0, store_getS, tell_canonL, tell_canon, canonL, AV.canon, Bool.or_true, Bool.or_false, Bool.and_true, Bool.and_false, Bool.not_true, Bool.not_false, Option.some.injEq, canonL_N, canonL_E, canonL_encI, encI, encE]), .inl rfl, .inl rfl, .inl rfl, .inl rfl, .inl rfl, .inl rfl, .inr (by first | rfl | simp [go_sem, tell_u, tell_bool, tell_int, tell_str, tell_nilp, tell_nilm, tell_nilI, tell_nilF, tell_agg, tell_tup, tell_ifc, tell_ds, tell_dp, tell_op, tell_os, tell_mp, idxOf_nil, idxOf_cons, tellS_nil, tellS_cons, tellO_cells, tellO_map, tellO_iter, tellO_dead, store_get0, store_getS, tell_canonL, tell_canon, canonL, AV.canon, Bool.or_true, Bool.or_false, Bool.and_true, Bool.and_false, Bool.not_true, Bool.not_false, Option.some.injEq]), .inr (by first | exact tell_canon _ _ _ (.int .i64 i) 12 (by simp [AV.canon, canonL, canonL_N, canonL_E, canonL_encI, encI, encE]) | rfl | simp [go_sem, tell_u, tell_bool, tell_int, tell_str, tell_nilp, tell_nilm, tell_nilI, tell_nilF, tell_agg, tell_tup, tell_ifc, tell_ds, tell_dp, tell_op, tell_os, tell_mp, idxOf_nil, idxOf_cons, tellS_nil, tellS_cons, tellO_cells, tellO_map, tellO_iter, tellO_dead, store_get0, store_getS, tell_canonL, tell_canon, canonL, AV.canon, Bool.or_true, Bool.or_false, Bool.and_true, Bool.and_false, Bool.not_true, Bool.not_false, Option.some.injEq, canonL_N, canonL_E, canonL_encI, encI, encE]), .inl rfl, .inr (by first | rfl | simp [go_sem, tell_u, tell_bool, tell_int, tell_str, tell_nilp, tell_nilm, tell_nilI, tell_nilF, tell_agg, tell_tup, tell_ifc, tell_ds, tell_dp, tell_op, tell_os, tell_mp, idxOf_nil, idxOf_cons, tellS_nil, tellS_cons, tellO_cells, tellO_map, tellO_iter, tellO_dead, store_get0, store_getS, tell_canonL, tell_canon, canonL, AV.canon, Bool.or_true, Bool.or_false, Bool.and_true, Bool.and_false, Bool.not_true, Bool.not_false, Option.some.injEq]), .inr (by first | exact tell_canon _ _ _ (.int .i64 j) 12 (by simp [AV.canon, canonL, canonL_N, canonL_E, canonL_encI, encI, encE]) | rfl | simp [go_sem, tell_u, tell_bool, tell_int, tell_str, tell_nilp, tell_nilm, tell_nilI, tell_nilF, tell_agg, tell_tup, tell_ifc, tell_ds, tell_dp, tell_op, tell_os, tell_mp, idxOf_nil, idxOf_cons, tellS_nil, tellS_cons, tellO_cells, tellO_map, tellO_iter, tellO_dead, store_get0, store_getS, tell_canonL, tell_canon, canonL, AV.canon, Bool.or_true, Bool.or_false, Bool.and_true, Bool.and_false, Bool.not_true, Bool.not_false, Option.some.injEq, canonL_N, canonL_E, canonL_encI, encI, encE]), trivial⟩
            · skip
              refine awp_exit ?_
              refine hZ9 _ _ ?_
              refine awp_seq_k fun Z12 hZ12 => ?_
              obtain rfl : j = ms.length := by omega
              have hcl := canL_len ms ms.length
              rw [← hcn] at hcl
              refine reg tok [false, true, true, false, false, false, false, false, false, true, true, false, true, false, false, false, false, false, false, false, false, false, false, false, false, false, false, false, false, false, false, false, false, false, false, false, false, false, false, false, false, false, false, false, false, false, false, false, false, false, false, false, false, false, false, false, false, false, false, false, false, false, false, false, false, false, false, false, false, false, false, false, false, false, false, false, false, false, false, false, false, false, false, false, false, false, false, false, false, true] fun K hK => ?_
              simp only [go_sem, Nat.reduceLT, Nat.reduceLeDiff, Nat.reduceEqDiff, Nat.reduceAdd, Nat.reduceMul, Nat.reduceSub, reduceIte, reduceCtorEq, encE, hwi, hzf7]
              refine hK _ _ ?_
              clear hK K
              refine awp_if rfl (fun hc => ?_) (fun _ => ?_)
              · exact absurd (canL_nil (by rw [← hcn]; omega)) (by simp [hnd])
              refine awp_skip ?_
              refine hZ12 _ _ ?_
              refine reg tok [false, true, true, false, false, false, false, false, false, true, true, false, true, false, true] fun K hK => ?_
              simp only [go_sem, Nat.reduceLT, Nat.reduceLeDiff, Nat.reduceEqDiff, Nat.reduceAdd, Nat.reduceMul, Nat.reduceSub, reduceIte, reduceCtorEq, encE, hwi, hzf7]
              refine hK _ _ ?_
              clear hK K
              refine awp_seq_k fun Z13 hZ13 => ?_
              have hi0 : 0 < can.length := by omega
              have jl : ∀ nl tt q, i < wk.length → evIndexAddr tab 34 (.ds nl (wk.flatMap encI) wk.length tt) (.int q i) = some (.dp (wk.flatMap encI) i) := fun nl tt q h => by
                have := encI_E.idx (l := wk) (k := (i : Int)) (by omega) (by omega) nl tt q
                rwa [Int.toNat_natCast, Nat.mul_one] at this
              have jr : ∀ (h : i < wk.length) σ, evLoad tab 3 (.dp (wk.flatMap encI) i) σ = some (.int .i64 wk[i]) := fun h σ => by
                have := encI_E.fld0 (f := 3) rfl rfl h σ
                rw [Nat.mul_one] at this; exact this
              have step : ∀ v : Int, ∃ y, (if v.tmod (can.length : Int) < 0 then IntKind.i64.wrap (v.tmod (can.length : Int) + (can.length : Int)) else v.tmod (can.length : Int)) = y ∧ 0 ≤ y ∧ y < (can.length : Int) := fun v => place_lt v _ (by omega) (by omega)
              refine reg tok [false, true, true, false, false, false, false, false, false, true, true, false, true, false, true, false, false, false, false, false, false, false, false, false, false, false, false, false, false, false, false, false, false, false, false, false, false, false, false, false, false, false, false, false, false, false, false, false, false, false, false, false, false, false, false, false, false, false, false, false, false, false, false, false, false, false, false, false, false, false, false, false, false, false, false, false, false, false, false, false, false, false, false, false, false, false, false, false, false, false, false, false, false, true] fun K hK => ?_
              simp only [go_sem, Nat.reduceLT, Nat.reduceLeDiff, Nat.reduceEqDiff, Nat.reduceAdd, Nat.reduceMul, Nat.reduceSub, reduceIte, reduceCtorEq, encE, hwi, hzf7]
              refine hK _ _ ?_
              clear hK K
              refine awp_if rfl (fun hcc24 => ?_) (fun hcc24 => ?_)
              · skip
                have jl' := fun nl tt q => jl nl tt q (by omega)
                have jr' := jr (by omega)
                have stp := step (wk[i]'(by omega))
                refine regEnd tok ?_
                simp only [go_sem, Nat.reduceLT, Nat.reduceLeDiff, Nat.reduceEqDiff, Nat.reduceAdd, Nat.reduceMul, Nat.reduceSub, reduceIte, reduceCtorEq, encE, hwi, hzf7, jl', jr']
                refine hZ13 _ _ ?_
                refine awp_region ?_
                refine opsRunN tok 5 ?_
                simp only [go_sem, Nat.reduceLT, Nat.reduceLeDiff, Nat.reduceEqDiff, Nat.reduceAdd, Nat.reduceMul, Nat.reduceSub, reduceIte, reduceCtorEq, encE, hwi, hzf7, jl', jr']
                obtain ⟨y, hy, hy0, hy1⟩ := stp
                have hyl : y.toNat < can.length := by omega
                obtain ⟨x, hx⟩ : ∃ x, x = can[y.toNat]'hyl := ⟨_, rfl⟩
                have hcan : canB ms x = true := canL_mem (k := ms.length) (by rw [hx, ← hcn]; exact List.getElem_mem _)
                obtain ⟨c0, c1, c2⟩ := canB_iff.1 hcan
                rw [getD_nat c0 c1] at c2
                have c3 : x < ns.length := by omega
                have hal := afterL_int c0 c1 hcan
                have ko := fun nl tt q sz id ver off => encI_E.idxo (len := can.length) (k := y) hy0 hy1 nl tt q sz id ver off
                have k0 : (y.toNat < (can.flatMap encI).length) = True := eq_true (by rw [enc_length encI_E.len]; omega)
                have k1 : gc (can.flatMap encI) y.toNat = .int .i64 x := by
                  have := enc_gc encI_E.len (l := can) (i := y.toNat) (o := 0) hyl (by decide)
                  rw [Nat.mul_one, Nat.add_zero, ← hx] at this; exact this
                have jo := fun nl tt q sz id ver off => encN_E.idxo (len := ns.length) (k := x) c0 c3 nl tt q sz id ver off
                have j0 := fun n => enc_rd0 (n := n) encN_E.len (l := ms) (k := x.toNat) (by omega) (by decide)
                have js : (ms.flatMap encN).set (x.toNat * 3) (.int .i64 (IntKind.i64.wrap (ms[x.toNat].v + 1))) = (afterL ms x).flatMap encN := by
                  rw [hal]; exact enc_set0 encN_E.len (by omega) (by decide) rfl
                have jz : (x.toNat * 3 + 1 ≤ (ms.flatMap encN).length) = True := eq_true (by rw [enc_length encN_E.len]; omega)
                refine opsWp_callD rfl rfl rfl (place_pc_ev _ (can.length : Int) (by omega) _) ?_
                rw [hy]; rintro _ _ ⟨rfl, rfl⟩
                refine opsRunN tok 8 ?_
                simp only [go_sem, Nat.reduceLT, Nat.reduceLeDiff, Nat.reduceEqDiff, Nat.reduceAdd, Nat.reduceMul, Nat.reduceSub, reduceIte, reduceCtorEq, encE, hwi, hzf7, jl', jr', ko, k0, k1, jo, j0, js, jz, encN, encI, Nat.mul_one]
                refine opsRunN tok 1 ?_
                simp only [go_sem, Nat.reduceLT, Nat.reduceLeDiff, Nat.reduceEqDiff, Nat.reduceAdd, Nat.reduceMul, Nat.reduceSub, reduceIte, reduceCtorEq, encE, hwi, hzf7, jl', jr', ko, k0, k1, jo, j0, js, jz, encN, encI, Nat.mul_one]
                refine opsWp_nil ?_
                refine hZ5 _ _ ?_
                refine regEnd tok ?_
                simp only [go_sem, Nat.reduceLT, Nat.reduceLeDiff, Nat.reduceEqDiff, Nat.reduceAdd, Nat.reduceMul, Nat.reduceSub, reduceIte, reduceCtorEq, encE, hwi, hzf7, jl', jr']
                refine ⟨_, _, _, ?_, ⟨i + 1, afterL ms x, rfl, rfl, rfl, ?_⟩, ?_⟩
                · omega
                · exact ⟨hnx x hcan, afterL_ok hok' hcan, by rw [afterL_length hcan, hlen]⟩
                · exact Tells.mk' [0] false 12 (by decide) (by simp) (by first | rfl | simp) (by first | rfl | simp [tell_u, tell_bool, tell_int, tell_str, tell_nilp, tell_nilm, tell_nilI, tell_nilF, tell_agg, tell_tup, tell_ifc, tell_ds, tell_dp, tell_op, tell_os, tell_mp, idxOf_nil, idxOf_cons, tellS_nil, tellS_cons, tellO_cells, tellO_map, tellO_iter, tellO_dead, store_get0, store_getS, tell_canonL, tell_canon, canonL, AV.canon, Bool.or_true, Bool.or_false, Bool.and_true, Bool.and_false, Bool.not_true, Bool.not_false, Option.some.injEq, canonL_N, canonL_E, canonL_encI, encI, encE]) ⟨.inl rfl, .inr (by first | exact tell_canon _ _ _ (.ds true (es.flatMap encE) es.length false) 12 (by simp [AV.canon, canonL, canonL_N, canonL_E, canonL_encI, encI, encE]) | rfl | simp [go_sem, tell_u, tell_bool, tell_int, tell_str, tell_nilp, tell_nilm, tell_nilI, tell_nilF, tell_agg, tell_tup, tell_ifc, tell_ds, tell_dp, tell_op, tell_os, tell_mp, idxOf_nil, idxOf_cons, tellS_nil, tellS_cons, tellO_cells, tellO_map, tellO_iter, tellO_dead, store_get0, store_getS, tell_canonL, tell_canon, canonL, AV.canon, Bool.or_true, Bool.or_false, Bool.and_true, Bool.and_false, Bool.not_true, Bool.not_false, Option.some.injEq, canonL_N, canonL_E, canonL_encI, encI, encE]), .inr (by first | exact tell_canon _ _ _ (.ds true (wk.flatMap encI) wk.length false) 12 (by simp [AV.canon, canonL, canonL_N, canonL_E, canonL_encI, encI, encE]) | rfl | simp [go_sem, tell_u, tell_bool, tell_int, tell_str, tell_nilp, tell_nilm, tell_nilI, tell_nilF, tell_agg, tell_tup, tell_ifc, tell_ds, tell_dp, tell_op, tell_os, tell_mp, idxOf_nil, idxOf_cons, tellS_nil, tellS_cons, tellO_cells, tellO_map, tellO_iter, tellO_dead, store_get0, store_getS, tell_canonL, tell_canon, canonL, AV.canon, Bool.or_true, Bool.or_false, Bool.and_true, Bool.and_false, Bool.not_true, Bool.not_false, Option.some.injEq, canonL_N, canonL_E, canonL_encI, encI, encE]), .inl rfl, .inl rfl, .inl rfl, .inl rfl, .inl rfl, .inl rfl, .inr (by first | rfl | simp [go_sem, tell_u, tell_bool, tell_int, tell_str, tell_nilp, tell_nilm, tell_nilI, tell_nilF, tell_agg, tell_tup, tell_ifc, tell_ds, tell_dp, tell_op, tell_os, tell_mp, idxOf_nil, idxOf_cons, tellS_nil, tellS_cons, tellO_cells, tellO_map, tellO_iter, tellO_dead, store_get0, store_getS, tell_canonL, tell_canon, canonL, AV.canon, Bool.or_true, Bool.or_false, Bool.and_true, Bool.and_false, Bool.not_true, Bool.not_false, Option.some.injEq]), .inr (by first | exact tell_canon _ _ _ (.int .i64 i) 12 (by simp [AV.canon, canonL, canonL_N, canonL_E, canonL_encI, encI, encE]) | rfl | simp [go_sem, tell_u, tell_bool, tell_int, tell_str, tell_nilp, tell_nilm, tell_nilI, tell_nilF, tell_agg, tell_tup, tell_ifc, tell_ds, tell_dp, tell_op, tell_os, tell_mp, idxOf_nil, idxOf_cons, tellS_nil, tellS_cons, tellO_cells, tellO_map, tellO_iter, tellO_dead, store_get0, store_getS, tell_canonL, tell_canon, canonL, AV.canon, Bool.or_true, Bool.or_false, Bool.and_true, Bool.and_false, Bool.not_true, Bool.not_false, Option.some.injEq, canonL_N, canonL_E, canonL_encI, encI, encE]), trivial⟩
              · skip
                have stp := step 0
                refine awp_skip ?_
                refine hZ13 _ _ ?_
                refine awp_region ?_
                refine opsRunN tok 5 ?_
                simp only [go_sem, Nat.reduceLT, Nat.reduceLeDiff, Nat.reduceEqDiff, Nat.reduceAdd, Nat.reduceMul, Nat.reduceSub, reduceIte, reduceCtorEq, encE, hwi, hzf7]
                obtain ⟨y, hy, hy0, hy1⟩ := stp
                have hyl : y.toNat < can.length := by omega
                obtain ⟨x, hx⟩ : ∃ x, x = can[y.toNat]'hyl := ⟨_, rfl⟩
                have hcan : canB ms x = true := canL_mem (k := ms.length) (by rw [hx, ← hcn]; exact List.getElem_mem _)
                obtain ⟨c0, c1, c2⟩ := canB_iff.1 hcan
                rw [getD_nat c0 c1] at c2
                have c3 : x < ns.length := by omega
                have hal := afterL_int c0 c1 hcan
                have ko := fun nl tt q sz id ver off => encI_E.idxo (len := can.length) (k := y) hy0 hy1 nl tt q sz id ver off
                have k0 : (y.toNat < (can.flatMap encI).length) = True := eq_true (by rw [enc_length encI_E.len]; omega)
                have k1 : gc (can.flatMap encI) y.toNat = .int .i64 x := by
                  have := enc_gc encI_E.len (l := can) (i := y.toNat) (o := 0) hyl (by decide)
                  rw [Nat.mul_one, Nat.add_zero, ← hx] at this; exact this
                have jo := fun nl tt q sz id ver off => encN_E.idxo (len := ns.length) (k := x) c0 c3 nl tt q sz id ver off
                have j0 := fun n => enc_rd0 (n := n) encN_E.len (l := ms) (k := x.toNat) (by omega) (by decide)
                have js : (ms.flatMap encN).set (x.toNat * 3) (.int .i64 (IntKind.i64.wrap (ms[x.toNat].v + 1))) = (afterL ms x).flatMap encN := by
                  rw [hal]; exact enc_set0 encN_E.len (by omega) (by decide) rfl
                have jz : (x.toNat * 3 + 1 ≤ (ms.flatMap encN).length) = True := eq_true (by rw [enc_length encN_E.len]; omega)
                refine opsWp_callD rfl rfl rfl (place_pc_ev _ (can.length : Int) (by omega) _) ?_
                rw [hy]; rintro _ _ ⟨rfl, rfl⟩
                refine opsRunN tok 8 ?_
                simp only [go_sem, Nat.reduceLT, Nat.reduceLeDiff, Nat.reduceEqDiff, Nat.reduceAdd, Nat.reduceMul, Nat.reduceSub, reduceIte, reduceCtorEq, encE, hwi, hzf7, ko, k0, k1, jo, j0, js, jz, encN, encI, Nat.mul_one]
                refine opsRunN tok 1 ?_
                simp only [go_sem, Nat.reduceLT, Nat.reduceLeDiff, Nat.reduceEqDiff, Nat.reduceAdd, Nat.reduceMul, Nat.reduceSub, reduceIte, reduceCtorEq, encE, hwi, hzf7, ko, k0, k1, jo, j0, js, jz, encN, encI, Nat.mul_one]
                refine opsWp_nil ?_
                refine hZ5 _ _ ?_
                refine regEnd tok ?_
                simp only [go_sem, Nat.reduceLT, Nat.reduceLeDiff, Nat.reduceEqDiff, Nat.reduceAdd, Nat.reduceMul, Nat.reduceSub, reduceIte, reduceCtorEq, encE, hwi, hzf7]
                refine ⟨_, _, _, ?_, ⟨i + 1, afterL ms x, rfl, rfl, rfl, ?_⟩, ?_⟩
                · omega
                · exact ⟨hnx x hcan, afterL_ok hok' hcan, by rw [afterL_length hcan, hlen]⟩
                · exact Tells.mk' [0] false 12 (by decide) (by simp) (by first | rfl | simp) (by first | rfl | simp [tell_u, tell_bool, tell_int, tell_str, tell_nilp, tell_nilm, tell_nilI, tell_nilF, tell_agg, tell_tup, tell_ifc, tell_ds, tell_dp, tell_op, tell_os, tell_mp, idxOf_nil, idxOf_cons, tellS_nil, tellS_cons, tellO_cells, tellO_map, tellO_iter, tellO_dead, store_get0, store_getS, tell_canonL, tell_canon, canonL, AV.canon, Bool.or_true, Bool.or_false, Bool.and_true, Bool.and_false, Bool.not_true, Bool.not_false, Option.some.injEq, canonL_N, canonL_E, canonL_encI, encI, encE]) ⟨.inl rfl, .inr (by first | exact tell_canon _ _ _ (.ds true (es.flatMap encE) es.length false) 12 (by simp [AV.canon, canonL, canonL_N, canonL_E, canonL_encI, encI, encE]) | rfl | simp [go_sem, tell_u, tell_bool, tell_int, tell_str, tell_nilp, tell_nilm, tell_nilI, tell_nilF, tell_agg, tell_tup, tell_ifc, tell_ds, tell_dp, tell_op, tell_os, tell_mp, idxOf_nil, idxOf_cons, tellS_nil, tellS_cons, tellO_cells, tellO_map, tellO_iter, tellO_dead, store_get0, store_getS, tell_canonL, tell_canon, canonL, AV.canon, Bool.or_true, Bool.or_false, Bool.and_true, Bool.and_false, Bool.not_true, Bool.not_false, Option.some.injEq, canonL_N, canonL_E, canonL_encI, encI, encE]), .inr (by first | exact tell_canon _ _ _ (.ds true (wk.flatMap encI) wk.length false) 12 (by simp [AV.canon, canonL, canonL_N, canonL_E, canonL_encI, encI, encE]) | rfl | simp [go_sem, tell_u, tell_bool, tell_int, tell_str, tell_nilp, tell_nilm, tell_nilI, tell_nilF, tell_agg, tell_tup, tell_ifc, tell_ds, tell_dp, tell_op, tell_os, tell_mp, idxOf_nil, idxOf_cons, tellS_nil, tellS_cons, tellO_cells, tellO_map, tellO_iter, tellO_dead, store_get0, store_getS, tell_canonL, tell_canon, canonL, AV.canon, Bool.or_true, Bool.or_false, Bool.and_true, Bool.and_false, Bool.not_true, Bool.not_false, Option.some.injEq, canonL_N, canonL_E, canonL_encI, encI, encE]), .inl rfl, .inl rfl, .inl rfl, .inl rfl, .inl rfl, .inl rfl, .inr (by first | rfl | simp [go_sem, tell_u, tell_bool, tell_int, tell_str, tell_nilp, tell_nilm, tell_nilI, tell_nilF, tell_agg, tell_tup, tell_ifc, tell_ds, tell_dp, tell_op, tell_os, tell_mp, idxOf_nil, idxOf_cons, tellS_nil, tellS_cons, tellO_cells, tellO_map, tellO_iter, tellO_dead, store_get0, store_getS, tell_canonL, tell_canon, canonL, AV.canon, Bool.or_true, Bool.or_false, Bool.and_true, Bool.and_false, Bool.not_true, Bool.not_false, Option.some.injEq]), .inr (by first | exact tell_canon _ _ _ (.int .i64 i) 12 (by simp [AV.canon, canonL, canonL_N, canonL_E, canonL_encI, encI, encE]) | rfl | simp [go_sem, tell_u, tell_bool, tell_int, tell_str, tell_nilp, tell_nilm, tell_nilI, tell_nilF, tell_agg, tell_tup, tell_ifc, tell_ds, tell_dp, tell_op, tell_os, tell_mp, idxOf_nil, idxOf_cons, tellS_nil, tellS_cons, tellO_cells, tellO_map, tellO_iter, tellO_dead, store_get0, store_getS, tell_canonL, tell_canon, canonL, AV.canon, Bool.or_true, Bool.or_false, Bool.and_true, Bool.and_false, Bool.not_true, Bool.not_false, Option.some.injEq, canonL_N, canonL_E, canonL_encI, encI, encE]), trivial⟩
          · have hzt7 := z_true hE2
            have hzi7 := z_inc hE2 he
            have hzx7 := fun nl tt q => encE_E.idxZ hE2 nl tt q
            have hzf7_0 := encE_E.fldZ0 (f := 3) rfl rfl hE2
            have hzf7_1 := encE_E.fldZ (f := 3) rfl rfl hE2 (o := 1) (by decide)
            have hoe := List.all_eq_true.1 hoke e (by rw [hE2]; simp)
            have hoe' := okE_iff.1 hoe
            have iy1 := fun nl tt q sz id ver off => encN_E.idxo (len := ns.length) (k := e.f) (by omega) (by omega) nl tt q sz id ver off
            have iy2 := fun nl tt q sz id ver off => encN_E.idxo (len := ns.length) (k := e.t) (by omega) (by omega) nl tt q sz id ver off
            have ir1 := evRd_enc encN_E.len (l := ms) (i := e.f.toNat) (by omega)
            have ir2 := evRd_enc encN_E.len (l := ms) (i := e.t.toNat) (by omega)
            have k1 := okN_spec (getOk hok' (i := e.f.toNat) (by omega))
            have k2 := okN_spec (getOk hok' (i := e.t.toNat) (by omega))
            have o1 : 0 ≤ (ms[e.f.toNat]'(by omega)).v ∧ (ms[e.f.toNat]'(by omega)).v ≤ 100 ∧ 0 ≤ (ms[e.f.toNat]'(by omega)).b ∧ (ms[e.f.toNat]'(by omega)).b ≤ 100 := by omega
            have o2 : 0 ≤ (ms[e.t.toNat]'(by omega)).v ∧ (ms[e.t.toNat]'(by omega)).v ≤ 100 ∧ 0 ≤ (ms[e.t.toNat]'(by omega)).b ∧ (ms[e.t.toNat]'(by omega)).b ≤ 100 := by omega
            have hfe : fitE ms e = anyC (ms[e.f.toNat]'(by omega)) (ms[e.t.toNat]'(by omega)) 12 1 := by
              unfold fitE
              rw [getD_nat (by omega) (by omega), getD_nat (by omega) (by omega)]
              exact fitS_iff (by omega) (by omega)
            refine awp_seq_k fun Z14 hZ14 => ?_
            refine reg tok [false, true, true, false, false, false, false, false, false, true, true, true, false, false, false, false, false, false, false, false, false, false, false, false, false, false, false, false, false, false, false, false, false, false, false, false, false, false, false, false, false, false, false, false, true] fun K hK => ?_
            simp only [go_sem, Nat.reduceLT, Nat.reduceLeDiff, Nat.reduceEqDiff, Nat.reduceAdd, Nat.reduceMul, Nat.reduceSub, reduceIte, reduceCtorEq, encE, hwi, hzt7, hzi7, hzx7, hzf7_0, hzf7_1]
            refine hK _ _ ?_
            clear hK K
            refine awp_cond_t rfl ?_
            refine awp_skip ?_
            refine hZ14 _ _ ?_
            refine awp_seq_k fun Z15 hZ15 => ?_
            refine awp_block ?_
            refine awp_seq_k fun K hK => ?_
            refine DW.start (T := tab) [.any, .any, .any, .any, .any, .at [], .any, .at [], .any, .any, .any, .any, .any, .at [], .any, .at [], .eff, .any] [] ?_
            refine DW.runN tok 8 ?_
            simp only [go_sem, Nat.reduceLT, Nat.reduceLeDiff, Nat.reduceEqDiff, Nat.reduceAdd, Nat.reduceMul, Nat.reduceSub, reduceIte, reduceCtorEq, encE, hwi, hzt7, hzi7, hzx7, hzf7_0, hzf7_1, iy1, iy2, ir1, ir2]
            refine DW.runN tok 8 ?_
            simp only [go_sem, Nat.reduceLT, Nat.reduceLeDiff, Nat.reduceEqDiff, Nat.reduceAdd, Nat.reduceMul, Nat.reduceSub, reduceIte, reduceCtorEq, encE, hwi, hzt7, hzi7, hzx7, hzf7_0, hzf7_1, iy1, iy2, ir1, ir2]
            refine DW.call rfl rfl rfl (common_pc_ev (ms[e.f.toNat]'(by omega)) (ms[e.t.toNat]'(by omega)) o1 o2 _) ?_
            refine DW.runN tok 1 ?_
            simp only [go_sem, Nat.reduceLT, Nat.reduceLeDiff, Nat.reduceEqDiff, Nat.reduceAdd, Nat.reduceMul, Nat.reduceSub, reduceIte, reduceCtorEq, encE, hwi, hzt7, hzi7, hzx7, hzf7_0, hzf7_1, iy1, iy2, ir1, ir2]
            refine DW.fin tok (by decide +kernel) rfl ?_
            refine hK _ _ (awp_keepM [false, true, true, false, false, false, false, false, false, true, true, true, false, false, false, false, false, false, false, false, false, false, false, false, false, false, false, false, false, false, false, false, false, false, false, false, false, false, false, false, false, false, false, false, false, false, false, false, false, false, false, false, false, false, false, false, false, false, false, false, false, false, false, false, true] ?_)
            clear hK K
            try simp only [go_sem, Nat.reduceLT, Nat.reduceLeDiff, Nat.reduceEqDiff, Nat.reduceAdd, Nat.reduceMul, Nat.reduceSub, reduceIte, reduceCtorEq]
            refine awp_if rfl (fun hcc13 => ?_) (fun hcc13 => ?_)
            · skip
              refine awp_seq_k fun K hK => ?_
              refine awp_region ?_
              refine opsWp_callD rfl rfl rfl (awake_pc_ev _) ?_
              rintro _ _ ⟨rfl, rfl⟩
              refine opsRunN tok 1 ?_
              simp only [go_sem, Nat.reduceLT, Nat.reduceLeDiff, Nat.reduceEqDiff, Nat.reduceAdd, Nat.reduceMul, Nat.reduceSub, reduceIte, reduceCtorEq, encE, hwi, hzt7, hzi7, hzx7, hzf7_0, hzf7_1]
              refine opsWp_nil ?_
              refine hK _ _ (awp_keepM [false, false, false, false, false, false, true] ?_)
              clear hK K
              try simp only [go_sem, Nat.reduceLT, Nat.reduceLeDiff, Nat.reduceEqDiff, Nat.reduceAdd, Nat.reduceMul, Nat.reduceSub, reduceIte, reduceCtorEq]
              refine awp_ret ?_
              simp only [retQ, resAll, resOne, resAV, exists_eq_left', go_sem, Nat.reduceLT, Nat.reduceLeDiff, Nat.reduceEqDiff, Nat.reduceAdd, Nat.reduceMul, Nat.reduceSub, reduceIte, reduceCtorEq, encE]
              first | rfl | (exfalso; simp_all; done)
            · skip
              refine awp_skip ?_
              refine hZ15 _ _ ?_
              refine regEnd tok ?_
              simp only [go_sem, Nat.reduceLT, Nat.reduceLeDiff, Nat.reduceEqDiff, Nat.reduceAdd, Nat.reduceMul, Nat.reduceSub, reduceIte, reduceCtorEq, encE, hwi, hzt7, hzi7, hzx7, hzf7_0, hzf7_1]
              refine ⟨_, _, _, ?_, ⟨pre ++ [e], post, rfl, rfl, rfl, ?_⟩, ?_⟩
              · simp
              · exact ⟨by simpa using hE2, by rw [List.all_append, hfit]; simp [hfe, hcc13]⟩
              · exact Tells.mk' [0] false 12 (by decide) (by simp) (by first | rfl | simp) (by first | rfl | simp [tell_u, tell_bool, tell_int, tell_str, tell_nilp, tell_nilm, tell_nilI, tell_nilF, tell_agg, tell_tup, tell_ifc, tell_ds, tell_dp, tell_op, tell_os, tell_mp, idxOf_nil, idxOf_cons, tellS_nil, tellS_cons, tellO_cells, tellO_map, tellO_iter, tellO_dead, store_get0, store_getS, tell_canonL, tell_canon, canonL, AV.canon, Bool.or_true, Bool.or_false, Bool.and_true, Bool.and_false, Bool.not_true, Bool.not_false, Option.some.injEq, canonL_N, canonL_E, canonL_encI, encI, encE]) ⟨.inl rfl, .inr (by first | exact tell_canon _ _ _ (.ds true (es.flatMap encE) es.length false) 12 (by simp [AV.canon, canonL, canonL_N, canonL_E, canonL_encI, encI, encE]) | rfl | simp [go_sem, tell_u, tell_bool, tell_int, tell_str, tell_nilp, tell_nilm, tell_nilI, tell_nilF, tell_agg, tell_tup, tell_ifc, tell_ds, tell_dp, tell_op, tell_os, tell_mp, idxOf_nil, idxOf_cons, tellS_nil, tellS_cons, tellO_cells, tellO_map, tellO_iter, tellO_dead, store_get0, store_getS, tell_canonL, tell_canon, canonL, AV.canon, Bool.or_true, Bool.or_false, Bool.and_true, Bool.and_false, Bool.not_true, Bool.not_false, Option.some.injEq, canonL_N, canonL_E, canonL_encI, encI, encE]), .inr (by first | exact tell_canon _ _ _ (.ds true (wk.flatMap encI) wk.length false) 12 (by simp [AV.canon, canonL, canonL_N, canonL_E, canonL_encI, encI, encE]) | rfl | simp [go_sem, tell_u, tell_bool, tell_int, tell_str, tell_nilp, tell_nilm, tell_nilI, tell_nilF, tell_agg, tell_tup, tell_ifc, tell_ds, tell_dp, tell_op, tell_os, tell_mp, idxOf_nil, idxOf_cons, tellS_nil, tellS_cons, tellO_cells, tellO_map, tellO_iter, tellO_dead, store_get0, store_getS, tell_canonL, tell_canon, canonL, AV.canon, Bool.or_true, Bool.or_false, Bool.and_true, Bool.and_false, Bool.not_true, Bool.not_false, Option.some.injEq, canonL_N, canonL_E, canonL_encI, encI, encE]), .inl rfl, .inl rfl, .inl rfl, .inl rfl, .inl rfl, .inl rfl, .inr (by first | rfl | simp [go_sem, tell_u, tell_bool, tell_int, tell_str, tell_nilp, tell_nilm, tell_nilI, tell_nilF, tell_agg, tell_tup, tell_ifc, tell_ds, tell_dp, tell_op, tell_os, tell_mp, idxOf_nil, idxOf_cons, tellS_nil, tellS_cons, tellO_cells, tellO_map, tellO_iter, tellO_dead, store_get0, store_getS, tell_canonL, tell_canon, canonL, AV.canon, Bool.or_true, Bool.or_false, Bool.and_true, Bool.and_false, Bool.not_true, Bool.not_false, Option.some.injEq]), .inr (by first | exact tell_canon _ _ _ (.int .i64 i) 12 (by simp [AV.canon, canonL, canonL_N, canonL_E, canonL_encI, encI, encE]) | rfl | simp [go_sem, tell_u, tell_bool, tell_int, tell_str, tell_nilp, tell_nilm, tell_nilI, tell_nilF, tell_agg, tell_tup, tell_ifc, tell_ds, tell_dp, tell_op, tell_os, tell_mp, idxOf_nil, idxOf_cons, tellS_nil, tellS_cons, tellO_cells, tellO_map, tellO_iter, tellO_dead, store_get0, store_getS, tell_canonL, tell_canon, canonL, AV.canon, Bool.or_true, Bool.or_false, Bool.and_true, Bool.and_false, Bool.not_true, Bool.not_false, Option.some.injEq, canonL_N, canonL_E, canonL_encI, encI, encE]), .inr (by first | exact tell_canon _ _ _ (.int .i64 pre.length) 12 (by simp [AV.canon, canonL, canonL_N, canonL_E, canonL_encI, encI, encE]) | rfl | simp [go_sem, tell_u, tell_bool, tell_int, tell_str, tell_nilp, tell_nilm, tell_nilI, tell_nilF, tell_agg, tell_tup, tell_ifc, tell_ds, tell_dp, tell_op, tell_os, tell_mp, idxOf_nil, idxOf_cons, tellS_nil, tellS_cons, tellO_cells, tellO_map, tellO_iter, tellO_dead, store_get0, store_getS, tell_canonL, tell_canon, canonL, AV.canon, Bool.or_true, Bool.or_false, Bool.and_true, Bool.and_false, Bool.not_true, Bool.not_false, Option.some.injEq, canonL_N, canonL_E, canonL_encI, encI, encE]), trivial⟩
        · skip
          refine awp_exit ?_
          refine hZ3 _ _ ?_
          refine awp_seq_k fun K hK => ?_
          refine awp_region ?_
          refine opsWp_callD rfl rfl rfl (awake_pc_ev _) ?_
          rintro _ _ ⟨rfl, rfl⟩
          refine opsRunN tok 1 ?_
          simp only [go_sem, Nat.reduceLT, Nat.reduceLeDiff, Nat.reduceEqDiff, Nat.reduceAdd, Nat.reduceMul, Nat.reduceSub, reduceIte, reduceCtorEq, encE]
          refine opsWp_nil ?_
          refine hK _ _ (awp_keepM [false, false, false, false, false, false, true] ?_)
          clear hK K
          try simp only [go_sem, Nat.reduceLT, Nat.reduceLeDiff, Nat.reduceEqDiff, Nat.reduceAdd, Nat.reduceMul, Nat.reduceSub, reduceIte, reduceCtorEq]
          refine awp_ret ?_
          simp only [retQ, resAll, resOne, resAV, exists_eq_left', go_sem, Nat.reduceLT, Nat.reduceLeDiff, Nat.reduceEqDiff, Nat.reduceAdd, Nat.reduceMul, Nat.reduceSub, reduceIte, reduceCtorEq, encE]
          first | rfl | (exfalso; simp_all; done)

theorem none_pc_ev (ns : List Nd) (es : List Ed) (wk : List Int) (hn : ns.length < 9223372036854775808) (he : es.length < 9223372036854775808) (hw : wk.length < 9223372036854775808) (σ : Store) : ACalls Try.prog 8 [.ds true (ns.flatMap encN) ns.length false, .ds true (es.flatMap encE) es.length false, .ds true (wk.flatMap encI) wk.length false] σ fun r σ' => r = .bool true ∧ σ' = σ :=
  (none_pc ns es wk hn he hw).pureAt (by simp [AV.canon, canonL, canonL_N, canonL_E, canonL_encI, encI, encE]) (by simp [AV.canon, canonL, canonL_N, canonL_E, canonL_encI, encI, encE]) σ


end Go.Proofs.Ytplddidoobjcnaa
