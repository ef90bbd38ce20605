/- PlanRests: what its function answers. -/
import Derived.Test.YtplddidoobjcnaaPm
set_option maxRecDepth 4000
set_option maxHeartbeats 2000000
set_option linter.unusedSimpArgs false
set_option linter.unusedVariables false
set_option linter.constructorNameAsVariable false
namespace Go.Proofs.Ytplddidoobjcnaa
open AM

theorem prodS_pos {l : List Nd} (h : l.all okN = true) : 1 ≤ prodS l := (prodS_bound h).1

theorem prodS_set : ∀ {ns : List Nd} {i : Nat} (hi : i < ns.length), ns.all okN = true → ns[i].v < ns[i].t → prodS (ns.set i (upN ns[i])) ≤ prodS ns := by
  intro ns
  induction ns with
  | nil => intro i hi; simp at hi
  | cons x l ih =>
    intro i hi ho hv
    simp only [List.all_cons, Bool.and_eq_true] at ho
    have hp := prodS_pos ho.2
    cases i with
    | zero =>
      simp only [List.getElem_cons_zero] at hv ⊢
      simp only [List.set_cons_zero, prodS, (upN_ok ho.1 hv).2]
      have : (upN x).t = x.t := rfl
      rw [this]
      exact Int.mul_le_mul_of_nonneg_right (by omega) (by omega)
    | succ i =>
      simp only [List.getElem_cons_succ] at hv ⊢
      simp only [List.set_cons_succ, prodS]
      obtain ⟨h1, h2, h3⟩ := okN_spec ho.1
      exact Int.mul_le_mul_of_nonneg_left (ih (by simpa using hi) ho.2 hv) (by omega)

theorem prodS_after {ns : List Nd} {i : Int} (h : ns.all okN = true) (hc : canB ns i = true) : prodS (afterL ns i) ≤ prodS ns := by
  obtain ⟨h0, h1, h2⟩ := canB_iff.1 hc
  obtain ⟨k, rfl⟩ : ∃ k : Nat, i = k := ⟨i.toNat, by omega⟩
  have hk : k < ns.length := by omega
  obtain ⟨_, hv⟩ := canB_nat.1 hc
  rw [afterL_nat hk hc]
  exact prodS_set hk h hv

theorem check_of {ns : List Nd} {es : List Ed} (h1 : ns.length ≤ 6) (h2 : es.length ≤ 64) (h3 : ns.all okN = true) (h4 : es.all (okE ns) = true) (h5 : prodS ns ≤ 4096) : checkS ns es = 0 := by
  have g : ¬ (6 < ns.length ∨ 64 < es.length) := by omega
  unfold checkS
  rw [if_neg g, h3, h4]; simp only [Bool.and_self, if_true]; rw [if_neg (by omega)]

theorem okE_len {ns ms : List Nd} (h : ms.length = ns.length) : okE ms = okE ns := by
  funext e; unfold okE; rw [h]

theorem plan_is {ns : List Nd} {es : List Ed} {l : List Int} (h1 : checkS ns es = 0) (h2 : path es ns = some l) : planS ns es = (l, 0) := by
  unfold planS; rw [if_pos h1, h2]

theorem enc_slice_lo {T : TT} {t e sz : Nat} {α : Type} {enc : α → List AV} (h : Enc T t e sz enc) {l : List α} {i : Nat} (hi : i ≤ l.length) (q : IntKind) :
    evSlice T t (.ds true (l.flatMap enc) l.length false) (some (.int q i)) none none = some (.ds true ((l.drop i).flatMap enc) (l.drop i).length false) := by
  obtain ⟨it, hit, hd⟩ := h.sl
  obtain ⟨je, hje, hs⟩ := h.el
  simp only [evSlice, hit, hd, hje, optI, cutOf, hs, Int.toNat_natCast]
  have g : (0 : Int) ≤ (i : Int) ∧ (i : Int) ≤ (l.length : Int) ∧ (l.length : Int) ≤ (l.length : Int) := by omega
  rw [if_pos g, enc_drop h.len, List.length_drop, List.take_of_length_le (by rw [enc_length h.len, List.length_drop]; exact Nat.le_refl _)]
  simp


theorem rests_pc (ns : List Nd) (es : List Ed) (n : Int) (hn : ns.length < 9223372036854775808) (he : es.length < 9223372036854775808) : ACalls Try.prog 12 [.ds true (ns.flatMap encN) ns.length false, .ds true (es.flatMap encE) es.length false, .int .i64 n] [] (fun r _ => r = .bool true) := by
  refine acalls_pure (rs := [.tmp 6]) tok Try.func12 rfl Try.ntmps12 rfl Try.call12 (by simp) ?_
  refine reg tok [true, true, true] fun K hK => ?_
  simp only [go_sem, Nat.reduceLT, Nat.reduceLeDiff, Nat.reduceEqDiff, Nat.reduceAdd, Nat.reduceMul, Nat.reduceSub, reduceIte, reduceCtorEq, encE]
  refine hK _ _ ?_
  clear hK K
  refine awp_seq_k fun Z1 hZ1 => ?_
  refine awp_seq_k fun K hK => ?_
  refine awp_region ?_
  refine opsRunN tok 4 ?_
  simp only [go_sem, Nat.reduceLT, Nat.reduceLeDiff, Nat.reduceEqDiff, Nat.reduceAdd, Nat.reduceMul, Nat.reduceSub, reduceIte, reduceCtorEq, encE]
  refine ops_if 19 rfl (fun hg19 => ?_) (fun hg19 => ?_)
  · skip
    refine opsRunN tok 4 ?_
    simp only [go_sem, Nat.reduceLT, Nat.reduceLeDiff, Nat.reduceEqDiff, Nat.reduceAdd, Nat.reduceMul, Nat.reduceSub, reduceIte, reduceCtorEq, encE]
    refine opsWp_nil ?_
    refine hK _ _ (awp_keepM [true, true, true, false, false, false, false, false, false, false, false, false, false, false, false, false, false, false, false, false, false, false, false, true] ?_)
    clear hK K
    try simp only [go_sem, Nat.reduceLT, Nat.reduceLeDiff, Nat.reduceEqDiff, Nat.reduceAdd, Nat.reduceMul, Nat.reduceSub, reduceIte, reduceCtorEq]
    refine awp_cond_t rfl ?_
    refine awp_seq_k fun K hK => ?_
    refine awp_region ?_
    refine opsWp_callD rfl rfl rfl (awake_pc_ev _) ?_
    rintro _ _ ⟨rfl, rfl⟩
    refine opsRunN tok 1 ?_
    simp only [go_sem, Nat.reduceLT, Nat.reduceLeDiff, Nat.reduceEqDiff, Nat.reduceAdd, Nat.reduceMul, Nat.reduceSub, reduceIte, reduceCtorEq, encE]
    refine opsWp_nil ?_
    refine hK _ _ (awp_keepM [false, false, false, false, false, false, true] ?_)
    clear hK K
    try simp only [go_sem, Nat.reduceLT, Nat.reduceLeDiff, Nat.reduceEqDiff, Nat.reduceAdd, Nat.reduceMul, Nat.reduceSub, reduceIte, reduceCtorEq]
    refine awp_ret ?_
    simp only [retQ, resAll, resOne, resAV, exists_eq_left', go_sem, Nat.reduceLT, Nat.reduceLeDiff, Nat.reduceEqDiff, Nat.reduceAdd, Nat.reduceMul, Nat.reduceSub, reduceIte, reduceCtorEq, encE]
    first | rfl | (exfalso; simp_all; done) | trace_state
  · skip
    refine opsRunN tok 4 ?_
    simp only [go_sem, Nat.reduceLT, Nat.reduceLeDiff, Nat.reduceEqDiff, Nat.reduceAdd, Nat.reduceMul, Nat.reduceSub, reduceIte, reduceCtorEq, encE]
    refine opsWp_nil ?_
    refine hK _ _ (awp_keepM [true, true, true, false, false, false, false, false, false, false, false, false, false, false, false, false, false, false, false, false, false, false, false, true] ?_)
    clear hK K
    try simp only [go_sem, Nat.reduceLT, Nat.reduceLeDiff, Nat.reduceEqDiff, Nat.reduceAdd, Nat.reduceMul, Nat.reduceSub, reduceIte, reduceCtorEq]
    refine awp_if rfl (fun hcc2 => ?_) (fun hcc2 => ?_)
    · skip
      refine awp_seq_k fun K hK => ?_
      refine awp_region ?_
      refine opsWp_callD rfl rfl rfl (awake_pc_ev _) ?_
      rintro _ _ ⟨rfl, rfl⟩
      refine opsRunN tok 1 ?_
      simp only [go_sem, Nat.reduceLT, Nat.reduceLeDiff, Nat.reduceEqDiff, Nat.reduceAdd, Nat.reduceMul, Nat.reduceSub, reduceIte, reduceCtorEq, encE]
      refine opsWp_nil ?_
      refine hK _ _ (awp_keepM [false, false, false, false, false, false, true] ?_)
      clear hK K
      try simp only [go_sem, Nat.reduceLT, Nat.reduceLeDiff, Nat.reduceEqDiff, Nat.reduceAdd, Nat.reduceMul, Nat.reduceSub, reduceIte, reduceCtorEq]
      refine awp_ret ?_
      simp only [retQ, resAll, resOne, resAV, exists_eq_left', go_sem, Nat.reduceLT, Nat.reduceLeDiff, Nat.reduceEqDiff, Nat.reduceAdd, Nat.reduceMul, Nat.reduceSub, reduceIte, reduceCtorEq, encE]
      first | rfl | (exfalso; simp_all; done) | trace_state
    · skip
      refine awp_skip ?_
      refine hZ1 _ _ ?_
      have hn20 : ns.length ≤ 20 := by omega
      have he100 : es.length ≤ 100 := by omega
      have hpl66 := planS_len ns es
      generalize hpl : planS ns es = pl at hpl66
      refine awp_seq_k fun K hK => ?_
      refine awp_region ?_
      refine opsRunN tok 1 ?_
      simp only [go_sem, Nat.reduceLT, Nat.reduceLeDiff, Nat.reduceEqDiff, Nat.reduceAdd, Nat.reduceMul, Nat.reduceSub, reduceIte, reduceCtorEq, encE]
      refine opsWp_callD rfl rfl rfl (nodes_pc_ev _ (by first | assumption | omega | (simp; done)) _) ?_
      rintro _ _ ⟨rfl, rfl⟩
      refine opsRunN tok 1 ?_
      simp only [go_sem, Nat.reduceLT, Nat.reduceLeDiff, Nat.reduceEqDiff, Nat.reduceAdd, Nat.reduceMul, Nat.reduceSub, reduceIte, reduceCtorEq, encE]
      refine opsWp_callD rfl rfl rfl (edges_pc_ev _ (by first | assumption | omega | (simp; done)) _) ?_
      rintro _ _ ⟨rfl, rfl⟩
      refine opsWp_callD rfl rfl rfl (plan_pc_ev ns es hn he _) ?_
      rw [hpl]; rintro _ _ ⟨rfl, rfl⟩
      refine opsRunN tok 5 ?_
      simp only [go_sem, Nat.reduceLT, Nat.reduceLeDiff, Nat.reduceEqDiff, Nat.reduceAdd, Nat.reduceMul, Nat.reduceSub, reduceIte, reduceCtorEq, encE]
      refine opsWp_nil ?_
      refine hK _ _ (awp_keepM [true, true, true, false, false, false, false, true, true] ?_)
      clear hK K
      try simp only [go_sem, Nat.reduceLT, Nat.reduceLeDiff, Nat.reduceEqDiff, Nat.reduceAdd, Nat.reduceMul, Nat.reduceSub, reduceIte, reduceCtorEq]
      refine awp_seq_k fun Z2 hZ2 => ?_
      refine reg tok [true, true, true, false, false, false, false, true, false, false, false, false, false, false, false, false, false, false, false, false, false, false, false, false, false, false, false, false, false, false, false, false, false, false, true] fun K hK => ?_
      simp only [go_sem, Nat.reduceLT, Nat.reduceLeDiff, Nat.reduceEqDiff, Nat.reduceAdd, Nat.reduceMul, Nat.reduceSub, reduceIte, reduceCtorEq, encE]
      refine hK _ _ ?_
      clear hK K
      refine awp_if rfl (fun hcc4 => ?_) (fun hcc4 => ?_)
      · skip
        have hb : pl.1 = [] := by rw [← hpl]; exact plan_bad (by rw [hpl]; simpa using hcc4)
        refine awp_seq_k fun K hK => ?_
        refine awp_region ?_
        refine opsRunN tok 4 ?_
        simp only [go_sem, Nat.reduceLT, Nat.reduceLeDiff, Nat.reduceEqDiff, Nat.reduceAdd, Nat.reduceMul, Nat.reduceSub, reduceIte, reduceCtorEq, encE]
        refine ops_if 38 rfl (fun hg38 => ?_) (fun hg38 => ?_)
        · skip
          refine opsWp_callD rfl rfl rfl (awake_pc_ev _) ?_
          rintro _ _ ⟨rfl, rfl⟩
          refine opsRunN tok 2 ?_
          simp only [go_sem, Nat.reduceLT, Nat.reduceLeDiff, Nat.reduceEqDiff, Nat.reduceAdd, Nat.reduceMul, Nat.reduceSub, reduceIte, reduceCtorEq, encE]
          refine opsWp_nil ?_
          refine hK _ _ (awp_keepM [false, false, false, false, false, false, true] ?_)
          clear hK K
          try simp only [go_sem, Nat.reduceLT, Nat.reduceLeDiff, Nat.reduceEqDiff, Nat.reduceAdd, Nat.reduceMul, Nat.reduceSub, reduceIte, reduceCtorEq]
          refine awp_ret ?_
          simp only [retQ, resAll, resOne, resAV, exists_eq_left', go_sem, Nat.reduceLT, Nat.reduceLeDiff, Nat.reduceEqDiff, Nat.reduceAdd, Nat.reduceMul, Nat.reduceSub, reduceIte, reduceCtorEq, encE]
          first | rfl | (exfalso; simp_all; done) | trace_state
        · skip
          exact absurd (by rw [hb]; rfl) hg38
      · skip
        have hp2 : (planS ns es).2 = 0 := by rw [hpl]; simpa using hcc4
        obtain ⟨hck, hpath⟩ := plan_ok hp2
        rw [hpl] at hpath
        obtain ⟨hl6, he64, hok, hoke, hprod⟩ := check_ok hck
        have w1 : IntKind.i64.wrap ((pl.1.length : Int) + 1) = (pl.1.length : Int) + 1 := i64_in (by omega) (by omega)
        obtain ⟨k, hk, hk0, hk1⟩ := place_lt n ((pl.1.length : Int) + 1) (by omega) (by omega)
        obtain ⟨k, rfl⟩ : ∃ k' : Nat, k = k' := ⟨k.toNat, by omega⟩
        refine awp_skip ?_
        refine hZ2 _ _ ?_
        refine awp_seq_k fun K hK => ?_
        refine awp_region ?_
        refine opsRunN tok 4 ?_
        simp only [go_sem, Nat.reduceLT, Nat.reduceLeDiff, Nat.reduceEqDiff, Nat.reduceAdd, Nat.reduceMul, Nat.reduceSub, reduceIte, reduceCtorEq, encE, w1]
        refine opsWp_callD rfl rfl rfl (place_pc_ev n ((pl.1.length : Int) + 1) (by omega) _) ?_
        rw [hk]; rintro _ _ ⟨rfl, rfl⟩
        refine opsRunN tok 1 ?_
        simp only [go_sem, Nat.reduceLT, Nat.reduceLeDiff, Nat.reduceEqDiff, Nat.reduceAdd, Nat.reduceMul, Nat.reduceSub, reduceIte, reduceCtorEq, encE, w1]
        refine opsWp_nil ?_
        refine hK _ _ (awp_keepM [true, true, false, false, false, false, false, true, false, true] ?_)
        clear hK K
        try simp only [go_sem, Nat.reduceLT, Nat.reduceLeDiff, Nat.reduceEqDiff, Nat.reduceAdd, Nat.reduceMul, Nat.reduceSub, reduceIte, reduceCtorEq]
        refine awp_seq_k fun K hK => ?_
        refine awp_region ?_
        refine opsRunN tok 1 ?_
        simp only [go_sem, Nat.reduceLT, Nat.reduceLeDiff, Nat.reduceEqDiff, Nat.reduceAdd, Nat.reduceMul, Nat.reduceSub, reduceIte, reduceCtorEq, encE]
        refine opsWp_callD rfl rfl rfl (nodes_pc_ev _ (by first | assumption | omega | (simp; done)) _) ?_
        rintro _ _ ⟨rfl, rfl⟩
        refine opsRunN tok 1 ?_
        simp only [go_sem, Nat.reduceLT, Nat.reduceLeDiff, Nat.reduceEqDiff, Nat.reduceAdd, Nat.reduceMul, Nat.reduceSub, reduceIte, reduceCtorEq, encE]
        refine opsWp_nil ?_
        refine hK _ _ (awp_keepM [false, true, false, false, false, false, false, true, false, true, true] ?_)
        clear hK K
        try simp only [go_sem, Nat.reduceLT, Nat.reduceLeDiff, Nat.reduceEqDiff, Nat.reduceAdd, Nat.reduceMul, Nat.reduceSub, reduceIte, reduceCtorEq]
        refine awp_seq_k fun Z3 hZ3 => ?_
        refine reg tok [false, true, false, false, false, false, false, true, false, true, true, true] fun K hK => ?_
        simp only [go_sem, Nat.reduceLT, Nat.reduceLeDiff, Nat.reduceEqDiff, Nat.reduceAdd, Nat.reduceMul, Nat.reduceSub, reduceIte, reduceCtorEq, encE]
        refine hK _ _ ?_
        clear hK K
        refine awp_block ?_
        refine awp_loopT (fun m L τ => ∃ (i : Nat) (ms : List Nd), m = 0 + (k - i) ∧ L = ([.u, (.ds true (es.flatMap encE) es.length false), .u, .u, .u, .u, .u, (.ds true (pl.1.flatMap encI) pl.1.length false), .u, (.int .i64 k), (.ds true (ms.flatMap encN) ms.length false), (.int .i64 i)] : List AV) ∧ τ = ([] : Store) ∧ i ≤ k ∧ path es ms = some (pl.1.drop i) ∧ ms.all okN = true ∧ ms.length = ns.length ∧ prodS ms ≤ 4096) _ ⟨0, ns, rfl, rfl, rfl, by exact ⟨by omega, by simpa using hpath, hok, rfl, hprod⟩⟩ ?_ ?_
        · exact Tells.mk' [] false 12 (by decide) (by simp) (by first | rfl | simp) (by first | rfl | simp [tell_u, tell_bool, tell_int, tell_str, tell_nilp, tell_nilm, tell_nilI, tell_nilF, tell_agg, tell_tup, tell_ifc, tell_ds, tell_dp, tell_op, tell_os, tell_mp, idxOf_nil, idxOf_cons, tellS_nil, tellS_cons, tellO_cells, tellO_map, tellO_iter, tellO_dead, store_get0, store_getS, tell_canonL, tell_canon, canonL, AV.canon, Bool.or_true, Bool.or_false, Bool.and_true, Bool.and_false, Bool.not_true, Bool.not_false, Option.some.injEq, canonL_N, canonL_E, canonL_encI, encE]) ⟨.inl rfl, .inr (by first | exact tell_canon _ _ _ (.ds true (es.flatMap encE) es.length false) 12 (by simp [AV.canon, canonL, canonL_N, canonL_E, canonL_encI, encE]) | rfl | simp [go_sem, tell_u, tell_bool, tell_int, tell_str, tell_nilp, tell_nilm, tell_nilI, tell_nilF, tell_agg, tell_tup, tell_ifc, tell_ds, tell_dp, tell_op, tell_os, tell_mp, idxOf_nil, idxOf_cons, tellS_nil, tellS_cons, tellO_cells, tellO_map, tellO_iter, tellO_dead, store_get0, store_getS, tell_canonL, tell_canon, canonL, AV.canon, Bool.or_true, Bool.or_false, Bool.and_true, Bool.and_false, Bool.not_true, Bool.not_false, Option.some.injEq, canonL_N, canonL_E, canonL_encI, encE]), .inl rfl, .inl rfl, .inl rfl, .inl rfl, .inl rfl, .inr (by first | exact tell_canon _ _ _ (.ds true (pl.1.flatMap encI) pl.1.length false) 12 (by simp [AV.canon, canonL, canonL_N, canonL_E, canonL_encI, encE]) | rfl | simp [go_sem, tell_u, tell_bool, tell_int, tell_str, tell_nilp, tell_nilm, tell_nilI, tell_nilF, tell_agg, tell_tup, tell_ifc, tell_ds, tell_dp, tell_op, tell_os, tell_mp, idxOf_nil, idxOf_cons, tellS_nil, tellS_cons, tellO_cells, tellO_map, tellO_iter, tellO_dead, store_get0, store_getS, tell_canonL, tell_canon, canonL, AV.canon, Bool.or_true, Bool.or_false, Bool.and_true, Bool.and_false, Bool.not_true, Bool.not_false, Option.some.injEq, canonL_N, canonL_E, canonL_encI, encE]), .inl rfl, .inr (by first | exact tell_canon _ _ _ (.int .i64 k) 12 (by simp [AV.canon, canonL, canonL_N, canonL_E, canonL_encI, encE]) | rfl | simp [go_sem, tell_u, tell_bool, tell_int, tell_str, tell_nilp, tell_nilm, tell_nilI, tell_nilF, tell_agg, tell_tup, tell_ifc, tell_ds, tell_dp, tell_op, tell_os, tell_mp, idxOf_nil, idxOf_cons, tellS_nil, tellS_cons, tellO_cells, tellO_map, tellO_iter, tellO_dead, store_get0, store_getS, tell_canonL, tell_canon, canonL, AV.canon, Bool.or_true, Bool.or_false, Bool.and_true, Bool.and_false, Bool.not_true, Bool.not_false, Option.some.injEq, canonL_N, canonL_E, canonL_encI, encE]), .inr (by first | exact tell_canon _ _ _ (.ds true (ms.flatMap encN) ms.length false) 12 (by simp [AV.canon, canonL, canonL_N, canonL_E, canonL_encI, encE]) | rfl | simp [go_sem, tell_u, tell_bool, tell_int, tell_str, tell_nilp, tell_nilm, tell_nilI, tell_nilF, tell_agg, tell_tup, tell_ifc, tell_ds, tell_dp, tell_op, tell_os, tell_mp, idxOf_nil, idxOf_cons, tellS_nil, tellS_cons, tellO_cells, tellO_map, tellO_iter, tellO_dead, store_get0, store_getS, tell_canonL, tell_canon, canonL, AV.canon, Bool.or_true, Bool.or_false, Bool.and_true, Bool.and_false, Bool.not_true, Bool.not_false, Option.some.injEq, canonL_N, canonL_E, canonL_encI, encE]), .inr (by first | exact tell_canon _ _ _ (.int .i64 i) 12 (by simp [AV.canon, canonL, canonL_N, canonL_E, canonL_encI, encE]) | rfl | simp [go_sem, tell_u, tell_bool, tell_int, tell_str, tell_nilp, tell_nilm, tell_nilI, tell_nilF, tell_agg, tell_tup, tell_ifc, tell_ds, tell_dp, tell_op, tell_os, tell_mp, idxOf_nil, idxOf_cons, tellS_nil, tellS_cons, tellO_cells, tellO_map, tellO_iter, tellO_dead, store_get0, store_getS, tell_canonL, tell_canon, canonL, AV.canon, Bool.or_true, Bool.or_false, Bool.and_true, Bool.and_false, Bool.not_true, Bool.not_false, Option.some.injEq, canonL_N, canonL_E, canonL_encI, encE]), trivial⟩
        rintro m L τ ⟨i, ms, rfl, rfl, rfl, hik, hp, hok', hlen, hpr⟩
        refine awp_seq_k fun Z4 hZ4 => ?_
        refine reg tok [false, true, false, false, false, false, false, true, false, true, true, true, false, false, false, false, false, false, false, false, false, false, false, false, false, false, false, false, false, false, false, false, false, false, false, false, false, false, false, false, false, false, false, false, false, false, false, false, false, false, true] fun K hK => ?_
        simp only [go_sem, Nat.reduceLT, Nat.reduceLeDiff, Nat.reduceEqDiff, Nat.reduceAdd, Nat.reduceMul, Nat.reduceSub, reduceIte, reduceCtorEq, encE]
        refine hK _ _ ?_
        clear hK K
        refine awp_if rfl (fun hcc9 => ?_) (fun hcc9 => ?_)
        · skip
          have hil : i < pl.1.length := by omega
          obtain ⟨x, hx⟩ : ∃ x, x = pl.1[i] := ⟨_, rfl⟩
          have hd : pl.1.drop i = x :: pl.1.drop (i + 1) := by rw [hx]; exact List.drop_eq_getElem_cons hil
          rw [hd] at hp
          obtain ⟨hcan, hp'⟩ := path_cons hok' hp
          have jl : ∀ nl tt q, evIndexAddr tab 34 (.ds nl (pl.1.flatMap encI) pl.1.length tt) (.int q i) = some (.dp (pl.1.flatMap encI) i) := fun nl tt q => by
            have := encI_E.idx (l := pl.1) (k := (i : Int)) (by omega) (by omega) nl tt q
            rwa [Int.toNat_natCast, Nat.mul_one] at this
          have jr : ∀ σ, evLoad tab 3 (.dp (pl.1.flatMap encI) i) σ = some (.int .i64 x) := fun σ => by
            have := encI_E.fld0 (f := 3) rfl rfl hil σ
            rw [Nat.mul_one, ← hx] at this; exact this
          have hwi : IntKind.i64.wrap ((i : Int) + 1) = ((i + 1 : Nat) : Int) := by rw [i64_in (by omega) (by omega)]; simp
          refine awp_skip ?_
          refine hZ4 _ _ ?_
          refine awp_seq_k fun Z5 hZ5 => ?_
          refine awp_block ?_
          refine awp_seq_k fun K hK => ?_
          refine awp_region ?_
          refine opsRunN tok 5 ?_
          simp only [go_sem, Nat.reduceLT, Nat.reduceLeDiff, Nat.reduceEqDiff, Nat.reduceAdd, Nat.reduceMul, Nat.reduceSub, reduceIte, reduceCtorEq, encE, jl, jr, hwi]
          refine opsWp_callD rfl rfl rfl (after_pc_ev _ _ (by first | assumption | omega | (simp; done)) _) ?_
          rintro _ _ ⟨rfl, rfl⟩
          refine opsRunN tok 5 ?_
          simp only [go_sem, Nat.reduceLT, Nat.reduceLeDiff, Nat.reduceEqDiff, Nat.reduceAdd, Nat.reduceMul, Nat.reduceSub, reduceIte, reduceCtorEq, encE, jl, jr, hwi]
          refine opsWp_nil ?_
          refine hK _ _ (awp_keepM [false, true, false, false, false, false, false, true, false, true, false, true, true, true] ?_)
          clear hK K
          try simp only [go_sem, Nat.reduceLT, Nat.reduceLeDiff, Nat.reduceEqDiff, Nat.reduceAdd, Nat.reduceMul, Nat.reduceSub, reduceIte, reduceCtorEq]
          refine awp_seq_k fun Z6 hZ6 => ?_
          refine reg tok [false, true, false, false, false, false, false, true, false, true, false, true, true, false, false, false, false, false, false, false, false, false, false, false, false, false, false, false, false, false, false, false, false, false, false, false, false, false, false, false, false, false, false, false, false, false, false, false, false, false, false, false, false, false, false, false, false, false, false, false, false, false, false, true] fun K hK => ?_
          simp only [go_sem, Nat.reduceLT, Nat.reduceLeDiff, Nat.reduceEqDiff, Nat.reduceAdd, Nat.reduceMul, Nat.reduceSub, reduceIte, reduceCtorEq, encE, jl, jr, hwi]
          refine hK _ _ ?_
          clear hK K
          refine awp_if rfl (fun hc => ?_) (fun _ => ?_)
          · rw [hcan] at hc; exact absurd hc (by decide)
          refine awp_skip ?_
          refine hZ6 _ _ ?_
          refine regEnd tok ?_
          simp only [go_sem, Nat.reduceLT, Nat.reduceLeDiff, Nat.reduceEqDiff, Nat.reduceAdd, Nat.reduceMul, Nat.reduceSub, reduceIte, reduceCtorEq, encE, jl, jr, hwi]
          refine hZ5 _ _ ?_
          refine regEnd tok ?_
          simp only [go_sem, Nat.reduceLT, Nat.reduceLeDiff, Nat.reduceEqDiff, Nat.reduceAdd, Nat.reduceMul, Nat.reduceSub, reduceIte, reduceCtorEq, encE, jl, jr, hwi]
          refine ⟨_, _, _, ?_, ⟨i + 1, afterL ms x, rfl, rfl, rfl, ?_⟩, ?_⟩
          · omega
          · exact ⟨by omega, hp', afterL_ok hok' hcan, by rw [afterL_length hcan, hlen], Int.le_trans (prodS_after hok' hcan) hpr⟩
          · exact Tells.mk' [] false 12 (by decide) (by simp) (by first | rfl | simp) (by first | rfl | simp [tell_u, tell_bool, tell_int, tell_str, tell_nilp, tell_nilm, tell_nilI, tell_nilF, tell_agg, tell_tup, tell_ifc, tell_ds, tell_dp, tell_op, tell_os, tell_mp, idxOf_nil, idxOf_cons, tellS_nil, tellS_cons, tellO_cells, tellO_map, tellO_iter, tellO_dead, store_get0, store_getS, tell_canonL, tell_canon, canonL, AV.canon, Bool.or_true, Bool.or_false, Bool.and_true, Bool.and_false, Bool.not_true, Bool.not_false, Option.some.injEq, canonL_N, canonL_E, canonL_encI, encE]) ⟨.inl rfl, .inr (by first | exact tell_canon _ _ _ (.ds true (es.flatMap encE) es.length false) 12 (by simp [AV.canon, canonL, canonL_N, canonL_E, canonL_encI, encE]) | rfl | simp [go_sem, tell_u, tell_bool, tell_int, tell_str, tell_nilp, tell_nilm, tell_nilI, tell_nilF, tell_agg, tell_tup, tell_ifc, tell_ds, tell_dp, tell_op, tell_os, tell_mp, idxOf_nil, idxOf_cons, tellS_nil, tellS_cons, tellO_cells, tellO_map, tellO_iter, tellO_dead, store_get0, store_getS, tell_canonL, tell_canon, canonL, AV.canon, Bool.or_true, Bool.or_false, Bool.and_true, Bool.and_false, Bool.not_true, Bool.not_false, Option.some.injEq, canonL_N, canonL_E, canonL_encI, encE]), .inl rfl, .inl rfl, .inl rfl, .inl rfl, .inl rfl, .inr (by first | exact tell_canon _ _ _ (.ds true (pl.1.flatMap encI) pl.1.length false) 12 (by simp [AV.canon, canonL, canonL_N, canonL_E, canonL_encI, encE]) | rfl | simp [go_sem, tell_u, tell_bool, tell_int, tell_str, tell_nilp, tell_nilm, tell_nilI, tell_nilF, tell_agg, tell_tup, tell_ifc, tell_ds, tell_dp, tell_op, tell_os, tell_mp, idxOf_nil, idxOf_cons, tellS_nil, tellS_cons, tellO_cells, tellO_map, tellO_iter, tellO_dead, store_get0, store_getS, tell_canonL, tell_canon, canonL, AV.canon, Bool.or_true, Bool.or_false, Bool.and_true, Bool.and_false, Bool.not_true, Bool.not_false, Option.some.injEq, canonL_N, canonL_E, canonL_encI, encE]), .inl rfl, .inr (by first | exact tell_canon _ _ _ (.int .i64 k) 12 (by simp [AV.canon, canonL, canonL_N, canonL_E, canonL_encI, encE]) | rfl | simp [go_sem, tell_u, tell_bool, tell_int, tell_str, tell_nilp, tell_nilm, tell_nilI, tell_nilF, tell_agg, tell_tup, tell_ifc, tell_ds, tell_dp, tell_op, tell_os, tell_mp, idxOf_nil, idxOf_cons, tellS_nil, tellS_cons, tellO_cells, tellO_map, tellO_iter, tellO_dead, store_get0, store_getS, tell_canonL, tell_canon, canonL, AV.canon, Bool.or_true, Bool.or_false, Bool.and_true, Bool.and_false, Bool.not_true, Bool.not_false, Option.some.injEq, canonL_N, canonL_E, canonL_encI, encE]), .inr (by first | exact tell_canon _ _ _ (.ds true (ms.flatMap encN) ms.length false) 12 (by simp [AV.canon, canonL, canonL_N, canonL_E, canonL_encI, encE]) | rfl | simp [go_sem, tell_u, tell_bool, tell_int, tell_str, tell_nilp, tell_nilm, tell_nilI, tell_nilF, tell_agg, tell_tup, tell_ifc, tell_ds, tell_dp, tell_op, tell_os, tell_mp, idxOf_nil, idxOf_cons, tellS_nil, tellS_cons, tellO_cells, tellO_map, tellO_iter, tellO_dead, store_get0, store_getS, tell_canonL, tell_canon, canonL, AV.canon, Bool.or_true, Bool.or_false, Bool.and_true, Bool.and_false, Bool.not_true, Bool.not_false, Option.some.injEq, canonL_N, canonL_E, canonL_encI, encE]), .inr (by first | exact tell_canon _ _ _ (.int .i64 i) 12 (by simp [AV.canon, canonL, canonL_N, canonL_E, canonL_encI, encE]) | rfl | simp [go_sem, tell_u, tell_bool, tell_int, tell_str, tell_nilp, tell_nilm, tell_nilI, tell_nilF, tell_agg, tell_tup, tell_ifc, tell_ds, tell_dp, tell_op, tell_os, tell_mp, idxOf_nil, idxOf_cons, tellS_nil, tellS_cons, tellO_cells, tellO_map, tellO_iter, tellO_dead, store_get0, store_getS, tell_canonL, tell_canon, canonL, AV.canon, Bool.or_true, Bool.or_false, Bool.and_true, Bool.and_false, Bool.not_true, Bool.not_false, Option.some.injEq, canonL_N, canonL_E, canonL_encI, encE]), trivial⟩
        · skip
          refine awp_exit ?_
          refine hZ3 _ _ ?_
          obtain rfl : i = k := by omega
          have hp3 : planS ms es = (pl.1.drop i, 0) := plan_is (check_of (by omega) he64 hok' (by rw [okE_len hlen]; exact hoke) hpr) hp
          have hdl : (pl.1.drop i).length < 9223372036854775808 := by rw [List.length_drop]; omega
          have sl := enc_slice_lo encI_E (l := pl.1) (i := i) (by omega) .i64
          refine awp_seq_k fun K hK => ?_
          refine awp_region ?_
          refine opsRunN tok 2 ?_
          simp only [go_sem, Nat.reduceLT, Nat.reduceLeDiff, Nat.reduceEqDiff, Nat.reduceAdd, Nat.reduceMul, Nat.reduceSub, reduceIte, reduceCtorEq, encE]
          refine opsWp_callD rfl rfl rfl (edges_pc_ev _ (by first | assumption | omega | (simp; done)) _) ?_
          rintro _ _ ⟨rfl, rfl⟩
          refine opsWp_callD rfl rfl rfl (plan_pc_ev ms es (by omega) he _) ?_
          rw [hp3]; rintro _ _ ⟨rfl, rfl⟩
          refine opsRunN tok 5 ?_
          simp only [go_sem, Nat.reduceLT, Nat.reduceLeDiff, Nat.reduceEqDiff, Nat.reduceAdd, Nat.reduceMul, Nat.reduceSub, reduceIte, reduceCtorEq, encE]
          refine opsWp_nil ?_
          refine hK _ _ (awp_keepM [false, false, false, false, false, false, false, true, false, true, false, false, false, false, true, true] ?_)
          clear hK K
          try simp only [go_sem, Nat.reduceLT, Nat.reduceLeDiff, Nat.reduceEqDiff, Nat.reduceAdd, Nat.reduceMul, Nat.reduceSub, reduceIte, reduceCtorEq]
          refine awp_seq_k fun K hK => ?_
          refine awp_region ?_
          refine opsRunN tok 3 ?_
          simp only [go_sem, Nat.reduceLT, Nat.reduceLeDiff, Nat.reduceEqDiff, Nat.reduceAdd, Nat.reduceMul, Nat.reduceSub, reduceIte, reduceCtorEq, encE, sl]
          refine ops_if 74 rfl (fun hg74 => ?_) (fun hg74 => ?_)
          · skip
            refine opsRunN tok 4 ?_
            simp only [go_sem, Nat.reduceLT, Nat.reduceLeDiff, Nat.reduceEqDiff, Nat.reduceAdd, Nat.reduceMul, Nat.reduceSub, reduceIte, reduceCtorEq, encE, sl]
            refine opsWp_callD rfl rfl rfl (same_pc_ev (pl.1.drop i) (pl.1.drop i) hdl hdl _) ?_
            rintro _ _ ⟨rfl, rfl⟩
            refine opsRunN tok 2 ?_
            simp only [go_sem, Nat.reduceLT, Nat.reduceLeDiff, Nat.reduceEqDiff, Nat.reduceAdd, Nat.reduceMul, Nat.reduceSub, reduceIte, reduceCtorEq, encE, sl]
            refine ops_if 81 rfl (fun hg81 => ?_) (fun hg81 => ?_)
            · skip
              refine opsWp_callD rfl rfl rfl (awake_pc_ev _) ?_
              rintro _ _ ⟨rfl, rfl⟩
              refine opsRunN tok 2 ?_
              simp only [go_sem, Nat.reduceLT, Nat.reduceLeDiff, Nat.reduceEqDiff, Nat.reduceAdd, Nat.reduceMul, Nat.reduceSub, reduceIte, reduceCtorEq, encE, sl]
              refine opsWp_nil ?_
              refine hK _ _ (awp_keepM [false, false, false, false, false, false, true] ?_)
              clear hK K
              try simp only [go_sem, Nat.reduceLT, Nat.reduceLeDiff, Nat.reduceEqDiff, Nat.reduceAdd, Nat.reduceMul, Nat.reduceSub, reduceIte, reduceCtorEq]
              refine awp_ret ?_
              simp only [retQ, resAll, resOne, resAV, exists_eq_left', go_sem, Nat.reduceLT, Nat.reduceLeDiff, Nat.reduceEqDiff, Nat.reduceAdd, Nat.reduceMul, Nat.reduceSub, reduceIte, reduceCtorEq, encE]
              first | rfl | (exfalso; simp_all; done) | trace_state
            · skip
              refine opsRunN tok 3 ?_
              simp only [go_sem, Nat.reduceLT, Nat.reduceLeDiff, Nat.reduceEqDiff, Nat.reduceAdd, Nat.reduceMul, Nat.reduceSub, reduceIte, reduceCtorEq, encE, sl]
              refine opsWp_nil ?_
              refine hK _ _ (awp_keepM [false, false, false, false, false, false, true] ?_)
              clear hK K
              try simp only [go_sem, Nat.reduceLT, Nat.reduceLeDiff, Nat.reduceEqDiff, Nat.reduceAdd, Nat.reduceMul, Nat.reduceSub, reduceIte, reduceCtorEq]
              refine awp_ret ?_
              simp only [retQ, resAll, resOne, resAV, exists_eq_left', go_sem, Nat.reduceLT, Nat.reduceLeDiff, Nat.reduceEqDiff, Nat.reduceAdd, Nat.reduceMul, Nat.reduceSub, reduceIte, reduceCtorEq, encE]
              first | rfl | (exfalso; simp_all; done) | trace_state
          · skip
            refine opsRunN tok 8 ?_
            simp only [go_sem, Nat.reduceLT, Nat.reduceLeDiff, Nat.reduceEqDiff, Nat.reduceAdd, Nat.reduceMul, Nat.reduceSub, reduceIte, reduceCtorEq, encE, sl]
            refine opsRunN tok 2 ?_
            simp only [go_sem, Nat.reduceLT, Nat.reduceLeDiff, Nat.reduceEqDiff, Nat.reduceAdd, Nat.reduceMul, Nat.reduceSub, reduceIte, reduceCtorEq, encE, sl]
            refine opsWp_nil ?_
            refine hK _ _ (awp_keepM [false, false, false, false, false, false, true] ?_)
            clear hK K
            try simp only [go_sem, Nat.reduceLT, Nat.reduceLeDiff, Nat.reduceEqDiff, Nat.reduceAdd, Nat.reduceMul, Nat.reduceSub, reduceIte, reduceCtorEq]
            refine awp_ret ?_
            simp only [retQ, resAll, resOne, resAV, exists_eq_left', go_sem, Nat.reduceLT, Nat.reduceLeDiff, Nat.reduceEqDiff, Nat.reduceAdd, Nat.reduceMul, Nat.reduceSub, reduceIte, reduceCtorEq, encE]
            first | rfl | (exfalso; simp_all; done) | trace_state

theorem rests_pc_ev (ns : List Nd) (es : List Ed) (n : Int) (hn : ns.length < 9223372036854775808) (he : es.length < 9223372036854775808) (σ : Store) : ACalls Try.prog 12 [.ds true (ns.flatMap encN) ns.length false, .ds true (es.flatMap encE) es.length false, .int .i64 n] σ fun r σ' => r = .bool true ∧ σ' = σ :=
  (rests_pc ns es n hn he).pureAt (by simp [AV.canon, canonL, canonL_N, canonL_E, canonL_encI, encE]) (by simp [AV.canon, canonL, canonL_N, canonL_E, canonL_encI, encE]) σ


end Go.Proofs.Ytplddidoobjcnaa
