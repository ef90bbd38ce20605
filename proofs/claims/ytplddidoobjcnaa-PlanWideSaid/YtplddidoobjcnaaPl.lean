/- PlanPairs: what its function answers. -/
import Derived.Test.YtplddidoobjcnaaPi
set_option maxRecDepth 4000
set_option maxHeartbeats 2000000
set_option linter.unusedSimpArgs false
set_option linter.unusedVariables false
set_option linter.constructorNameAsVariable false
namespace Go.Proofs.Ytplddidoobjcnaa
open AM

theorem place_lt (v n : Int) (h0 : 0 < n) (h1 : n < 1000000) : ∃ y, (if v.tmod n < 0 then IntKind.i64.wrap (v.tmod n + n) else v.tmod n) = y ∧ 0 ≤ y ∧ y < n := by
  refine ⟨_, rfl, ?_⟩
  have a := Int.tmod_lt_of_pos v h0
  have b : -n < v.tmod n := by
    have := Int.lt_tmod_of_pos v h0; omega
  split
  · rw [i64_in (by omega) (by omega)]; omega
  · omega

def pairB (x m p q : Nat) : Bool :=
  let r := planS [⟨1 + (x : Nat), 1 + (x : Nat) + (m : Nat), (p : Nat)⟩, ⟨1 + (x : Nat), 1 + (x : Nat) + (m : Nat), (q : Nat)⟩] [⟨0, 1⟩]
  if 0 < m ∧ p = 0 ∧ q = 0 then decide (r = ([], 14)) else decide (r.2 = 0) && decide (r.1.length = 2 * m)

theorem pairs_all : ∀ x < 6, ∀ m < 5, ∀ p < 4, ∀ q < 4, pairB x m p q = true := by decide +kernel

theorem pairs_ok {x m p q : Int} (hx : 0 ≤ x ∧ x < 6) (hm : 0 ≤ m ∧ m < 5) (hp : 0 ≤ p ∧ p < 4) (hq : 0 ≤ q ∧ q < 4) :
    ∃ l e, planS [⟨1 + x, 1 + x + m, p⟩, ⟨1 + x, 1 + x + m, q⟩] [⟨0, 1⟩] = (l, e) ∧ (if 0 < m ∧ p = 0 ∧ q = 0 then l = [] ∧ e = 14 else e = 0 ∧ (l.length : Int) = 2 * m) := by
  obtain ⟨x', rfl⟩ : ∃ k : Nat, x = k := ⟨x.toNat, by omega⟩
  obtain ⟨m', rfl⟩ : ∃ k : Nat, m = k := ⟨m.toNat, by omega⟩
  obtain ⟨p', rfl⟩ : ∃ k : Nat, p = k := ⟨p.toNat, by omega⟩
  obtain ⟨q', rfl⟩ : ∃ k : Nat, q = k := ⟨q.toNat, by omega⟩
  have h := pairs_all x' (by omega) m' (by omega) p' (by omega) q' (by omega)
  unfold pairB at h
  simp only at h
  generalize planS _ _ = r at h ⊢
  refine ⟨r.1, r.2, rfl, ?_⟩
  split
  · rw [if_pos (by omega)] at h; rw [of_decide_eq_true h]; exact ⟨rfl, rfl⟩
  · rw [if_neg (by omega)] at h; simp only [Bool.and_eq_true, decide_eq_true_eq] at h; exact ⟨h.1, by omega⟩


theorem pairs_pc (v w a b : Int)  : ACalls Try.prog 10 [.int .i64 v, .int .i64 w, .int .i64 a, .int .i64 b] [] (fun r _ => r = .bool true) := by
  refine acalls_pure (rs := [.tmp 8]) tok Try.func10 rfl Try.ntmps10 rfl Try.call10 (by simp) ?_
  obtain ⟨x, hx, hx0, hx1⟩ := place_lt v 6 (by decide) (by decide)
  obtain ⟨m, hm, hm0, hm1⟩ := place_lt w 5 (by decide) (by decide)
  obtain ⟨p, hp, hp0, hp1⟩ := place_lt a 4 (by decide) (by decide)
  obtain ⟨q, hq, hq0, hq1⟩ := place_lt b 4 (by decide) (by decide)
  have w1 : IntKind.i64.wrap (1 + x) = 1 + x := i64_in (by omega) (by omega)
  have w2 : IntKind.i64.wrap (1 + x + m) = 1 + x + m := i64_in (by omega) (by omega)
  have w3 : IntKind.i64.wrap (2 * m) = 2 * m := i64_in (by omega) (by omega)
  obtain ⟨l, e, hpl, hpe⟩ := pairs_ok ⟨hx0, hx1⟩ ⟨hm0, hm1⟩ ⟨hp0, hp1⟩ ⟨hq0, hq1⟩
  refine reg tok [true, true, true, true] fun K hK => ?_
  simp only [go_sem, Nat.reduceLT, Nat.reduceLeDiff, Nat.reduceEqDiff, Nat.reduceAdd, Nat.reduceMul, Nat.reduceSub, reduceIte, reduceCtorEq, encE, w1, w2, w3]
  refine hK _ _ ?_
  clear hK K
  refine awp_seq_k fun K hK => ?_
  refine awp_region ?_
  refine opsRunN tok 1 ?_
  simp only [go_sem, Nat.reduceLT, Nat.reduceLeDiff, Nat.reduceEqDiff, Nat.reduceAdd, Nat.reduceMul, Nat.reduceSub, reduceIte, reduceCtorEq, encE, w1, w2, w3]
  refine opsWp_callD rfl rfl rfl (place_pc_ev v 6 (by decide) _) ?_
  rw [hx]; rintro _ _ ⟨rfl, rfl⟩
  refine opsRunN tok 2 ?_
  simp only [go_sem, Nat.reduceLT, Nat.reduceLeDiff, Nat.reduceEqDiff, Nat.reduceAdd, Nat.reduceMul, Nat.reduceSub, reduceIte, reduceCtorEq, encE, w1, w2, w3]
  refine opsWp_callD rfl rfl rfl (place_pc_ev w 5 (by decide) _) ?_
  rw [hm]; rintro _ _ ⟨rfl, rfl⟩
  refine opsRunN tok 2 ?_
  simp only [go_sem, Nat.reduceLT, Nat.reduceLeDiff, Nat.reduceEqDiff, Nat.reduceAdd, Nat.reduceMul, Nat.reduceSub, reduceIte, reduceCtorEq, encE, w1, w2, w3]
  refine opsWp_nil ?_
  refine hK _ _ (awp_keepM [false, false, true, true, false, false, false, false, false, true, true] ?_)
  clear hK K
  try simp only [go_sem, Nat.reduceLT, Nat.reduceLeDiff, Nat.reduceEqDiff, Nat.reduceAdd, Nat.reduceMul, Nat.reduceSub, reduceIte, reduceCtorEq]
  refine awp_seq_k fun K hK => ?_
  refine awp_region ?_
  refine opsRunN tok 1 ?_
  simp only [go_sem, Nat.reduceLT, Nat.reduceLeDiff, Nat.reduceEqDiff, Nat.reduceAdd, Nat.reduceMul, Nat.reduceSub, reduceIte, reduceCtorEq, encE, w1, w2, w3]
  refine opsWp_callD rfl rfl rfl (place_pc_ev a 4 (by decide) _) ?_
  rw [hp]; rintro _ _ ⟨rfl, rfl⟩
  refine opsRunN tok 1 ?_
  simp only [go_sem, Nat.reduceLT, Nat.reduceLeDiff, Nat.reduceEqDiff, Nat.reduceAdd, Nat.reduceMul, Nat.reduceSub, reduceIte, reduceCtorEq, encE, w1, w2, w3]
  refine opsWp_callD rfl rfl rfl (place_pc_ev b 4 (by decide) _) ?_
  rw [hq]; rintro _ _ ⟨rfl, rfl⟩
  refine opsRunN tok 2 ?_
  simp only [go_sem, Nat.reduceLT, Nat.reduceLeDiff, Nat.reduceEqDiff, Nat.reduceAdd, Nat.reduceMul, Nat.reduceSub, reduceIte, reduceCtorEq, encE, w1, w2, w3]
  refine opsWp_nil ?_
  refine hK _ _ (awp_keepM [false, false, false, false, false, false, false, false, false, true, true, true, true] ?_)
  clear hK K
  try simp only [go_sem, Nat.reduceLT, Nat.reduceLeDiff, Nat.reduceEqDiff, Nat.reduceAdd, Nat.reduceMul, Nat.reduceSub, reduceIte, reduceCtorEq]
  refine reg tok [false, false, false, false, false, false, false, false, false, false, true, true, true, true] fun K hK => ?_
  simp only [go_sem, Nat.reduceLT, Nat.reduceLeDiff, Nat.reduceEqDiff, Nat.reduceAdd, Nat.reduceMul, Nat.reduceSub, reduceIte, reduceCtorEq, evBuildSlice, zeroRun, encE, w1, w2, w3, List.range_succ, List.range_zero, true_and, Nat.reduceMod]
  refine hK _ _ ?_
  clear hK K
  refine awp_seq_k fun K hK => ?_
  refine awp_region ?_
  refine opsRunN tok 3 ?_
  simp only [go_sem, Nat.reduceLT, Nat.reduceLeDiff, Nat.reduceEqDiff, Nat.reduceAdd, Nat.reduceMul, Nat.reduceSub, reduceIte, reduceCtorEq, evBuildSlice, zeroRun, encE, w1, w2, w3, List.range_succ, List.range_zero, true_and, Nat.reduceMod, List.flatMap_cons, List.flatMap_nil, encI]
  refine opsWp_tells [.u, .u, .u, .u, .u, .u, .u, .u, .u, .u, (.int .i64 m), (.int .i64 p), (.int .i64 q), .u, .u, .u, .u, .u, .u, .u, .u, .u, .u, .u, .u, .u, .u, .u, .u, .u, .u, .u, .u, .u, .u, .u, .u, .u, .u, (.ds true (([⟨1 + x, 1 + x + m, p⟩, ⟨1 + x, 1 + x + m, q⟩] : List Nd).flatMap encN) 2 false), .u, (.ds true ([⟨0, 1⟩].flatMap encE) 1 false)] [] (Tells.mk' [] true 12 (by decide) (by simp) (by first | rfl | simp) (by first | rfl | simp [tell_u, tell_bool, tell_int, tell_str, tell_nilp, tell_nilm, tell_nilI, tell_nilF, tell_agg, tell_tup, tell_ifc, tell_ds, tell_dp, tell_op, tell_os, tell_mp, idxOf_nil, idxOf_cons, tellS_nil, tellS_cons, tellO_cells, tellO_map, tellO_iter, tellO_dead, store_get0, store_getS, tell_canonL, tell_canon, canonL, AV.canon, Bool.or_true, Bool.or_false, Bool.and_true, Bool.and_false, Bool.not_true, Bool.not_false, Option.some.injEq, canonL_N, canonL_E, canonL_encI, encE]) ⟨.inl rfl, .inl rfl, .inl rfl, .inl rfl, .inl rfl, .inl rfl, .inl rfl, .inl rfl, .inl rfl, .inl rfl, .inr (by first | rfl | (simp [tell_u, tell_bool, tell_int, tell_str, tell_nilp, tell_nilm, tell_nilI, tell_nilF, tell_agg, tell_tup, tell_ifc, tell_ds, tell_dp, tell_op, tell_os, tell_mp, idxOf_nil, idxOf_cons, tellS_nil, tellS_cons, tellO_cells, tellO_map, tellO_iter, tellO_dead, store_get0, store_getS, tell_canonL, tell_canon, canonL, AV.canon, Bool.or_true, Bool.or_false, Bool.and_true, Bool.and_false, Bool.not_true, Bool.not_false, Option.some.injEq, canonL_N, canonL_E, canonL_encI, encE]; done) | (simp [encN, encE, encI, tell_u, tell_bool, tell_int, tell_str, tell_nilp, tell_nilm, tell_nilI, tell_nilF, tell_agg, tell_tup, tell_ifc, tell_ds, tell_dp, tell_op, tell_os, tell_mp, idxOf_nil, idxOf_cons, tellS_nil, tellS_cons, tellO_cells, tellO_map, tellO_iter, tellO_dead, store_get0, store_getS, tell_canonL, tell_canon, canonL, AV.canon, Bool.or_true, Bool.or_false, Bool.and_true, Bool.and_false, Bool.not_true, Bool.not_false, Option.some.injEq, canonL_N, canonL_E, canonL_encI, encE]; done)), .inr (by first | rfl | (simp [tell_u, tell_bool, tell_int, tell_str, tell_nilp, tell_nilm, tell_nilI, tell_nilF, tell_agg, tell_tup, tell_ifc, tell_ds, tell_dp, tell_op, tell_os, tell_mp, idxOf_nil, idxOf_cons, tellS_nil, tellS_cons, tellO_cells, tellO_map, tellO_iter, tellO_dead, store_get0, store_getS, tell_canonL, tell_canon, canonL, AV.canon, Bool.or_true, Bool.or_false, Bool.and_true, Bool.and_false, Bool.not_true, Bool.not_false, Option.some.injEq, canonL_N, canonL_E, canonL_encI, encE]; done) | (simp [encN, encE, encI, tell_u, tell_bool, tell_int, tell_str, tell_nilp, tell_nilm, tell_nilI, tell_nilF, tell_agg, tell_tup, tell_ifc, tell_ds, tell_dp, tell_op, tell_os, tell_mp, idxOf_nil, idxOf_cons, tellS_nil, tellS_cons, tellO_cells, tellO_map, tellO_iter, tellO_dead, store_get0, store_getS, tell_canonL, tell_canon, canonL, AV.canon, Bool.or_true, Bool.or_false, Bool.and_true, Bool.and_false, Bool.not_true, Bool.not_false, Option.some.injEq, canonL_N, canonL_E, canonL_encI, encE]; done)), .inr (by first | rfl | (simp [tell_u, tell_bool, tell_int, tell_str, tell_nilp, tell_nilm, tell_nilI, tell_nilF, tell_agg, tell_tup, tell_ifc, tell_ds, tell_dp, tell_op, tell_os, tell_mp, idxOf_nil, idxOf_cons, tellS_nil, tellS_cons, tellO_cells, tellO_map, tellO_iter, tellO_dead, store_get0, store_getS, tell_canonL, tell_canon, canonL, AV.canon, Bool.or_true, Bool.or_false, Bool.and_true, Bool.and_false, Bool.not_true, Bool.not_false, Option.some.injEq, canonL_N, canonL_E, canonL_encI, encE]; done) | (simp [encN, encE, encI, tell_u, tell_bool, tell_int, tell_str, tell_nilp, tell_nilm, tell_nilI, tell_nilF, tell_agg, tell_tup, tell_ifc, tell_ds, tell_dp, tell_op, tell_os, tell_mp, idxOf_nil, idxOf_cons, tellS_nil, tellS_cons, tellO_cells, tellO_map, tellO_iter, tellO_dead, store_get0, store_getS, tell_canonL, tell_canon, canonL, AV.canon, Bool.or_true, Bool.or_false, Bool.and_true, Bool.and_false, Bool.not_true, Bool.not_false, Option.some.injEq, canonL_N, canonL_E, canonL_encI, encE]; done)), .inl rfl, .inl rfl, .inl rfl, .inl rfl, .inl rfl, .inl rfl, .inl rfl, .inl rfl, .inl rfl, .inl rfl, .inl rfl, .inl rfl, .inl rfl, .inl rfl, .inl rfl, .inl rfl, .inl rfl, .inl rfl, .inl rfl, .inl rfl, .inl rfl, .inl rfl, .inl rfl, .inl rfl, .inl rfl, .inl rfl, .inr (by first | rfl | (simp [tell_u, tell_bool, tell_int, tell_str, tell_nilp, tell_nilm, tell_nilI, tell_nilF, tell_agg, tell_tup, tell_ifc, tell_ds, tell_dp, tell_op, tell_os, tell_mp, idxOf_nil, idxOf_cons, tellS_nil, tellS_cons, tellO_cells, tellO_map, tellO_iter, tellO_dead, store_get0, store_getS, tell_canonL, tell_canon, canonL, AV.canon, Bool.or_true, Bool.or_false, Bool.and_true, Bool.and_false, Bool.not_true, Bool.not_false, Option.some.injEq, canonL_N, canonL_E, canonL_encI, encE]; done) | (simp [encN, encE, encI, tell_u, tell_bool, tell_int, tell_str, tell_nilp, tell_nilm, tell_nilI, tell_nilF, tell_agg, tell_tup, tell_ifc, tell_ds, tell_dp, tell_op, tell_os, tell_mp, idxOf_nil, idxOf_cons, tellS_nil, tellS_cons, tellO_cells, tellO_map, tellO_iter, tellO_dead, store_get0, store_getS, tell_canonL, tell_canon, canonL, AV.canon, Bool.or_true, Bool.or_false, Bool.and_true, Bool.and_false, Bool.not_true, Bool.not_false, Option.some.injEq, canonL_N, canonL_E, canonL_encI, encE]; done)), .inl rfl, .inr (by first | rfl | (simp [tell_u, tell_bool, tell_int, tell_str, tell_nilp, tell_nilm, tell_nilI, tell_nilF, tell_agg, tell_tup, tell_ifc, tell_ds, tell_dp, tell_op, tell_os, tell_mp, idxOf_nil, idxOf_cons, tellS_nil, tellS_cons, tellO_cells, tellO_map, tellO_iter, tellO_dead, store_get0, store_getS, tell_canonL, tell_canon, canonL, AV.canon, Bool.or_true, Bool.or_false, Bool.and_true, Bool.and_false, Bool.not_true, Bool.not_false, Option.some.injEq, canonL_N, canonL_E, canonL_encI, encE]; done) | (simp [encN, encE, encI, tell_u, tell_bool, tell_int, tell_str, tell_nilp, tell_nilm, tell_nilI, tell_nilF, tell_agg, tell_tup, tell_ifc, tell_ds, tell_dp, tell_op, tell_os, tell_mp, idxOf_nil, idxOf_cons, tellS_nil, tellS_cons, tellO_cells, tellO_map, tellO_iter, tellO_dead, store_get0, store_getS, tell_canonL, tell_canon, canonL, AV.canon, Bool.or_true, Bool.or_false, Bool.and_true, Bool.and_false, Bool.not_true, Bool.not_false, Option.some.injEq, canonL_N, canonL_E, canonL_encI, encE]; done)), trivial⟩) ?_
  refine opsWp_callD rfl rfl rfl (plan_pc_ev [⟨1 + x, 1 + x + m, p⟩, ⟨1 + x, 1 + x + m, q⟩] [⟨0, 1⟩] (by simp) (by simp) _) ?_
  rw [hpl]; rintro _ _ ⟨rfl, rfl⟩
  refine opsRunN tok 5 ?_
  simp only [go_sem, Nat.reduceLT, Nat.reduceLeDiff, Nat.reduceEqDiff, Nat.reduceAdd, Nat.reduceMul, Nat.reduceSub, reduceIte, reduceCtorEq, encE, w1, w2, w3, zeroRun, List.range_succ, List.range_zero, true_and, Nat.reduceMod, List.flatMap_cons, List.flatMap_nil, encI]
  refine opsWp_nil ?_
  refine hK _ _ (awp_keepM [false, false, false, false, false, false, false, false, false, false, true, true, true, false, true, true] ?_)
  clear hK K
  try simp only [go_sem, Nat.reduceLT, Nat.reduceLeDiff, Nat.reduceEqDiff, Nat.reduceAdd, Nat.reduceMul, Nat.reduceSub, reduceIte, reduceCtorEq]
  refine awp_seq_k fun Z1 hZ1 => ?_
  refine awp_seq_k fun K hK => ?_
  refine awp_region ?_
  refine opsRunN tok 3 ?_
  simp only [go_sem, Nat.reduceLT, Nat.reduceLeDiff, Nat.reduceEqDiff, Nat.reduceAdd, Nat.reduceMul, Nat.reduceSub, reduceIte, reduceCtorEq, encE, w1, w2, w3]
  refine ops_if 47 rfl (fun hg47 => ?_) (fun hg47 => ?_)
  · skip
    refine opsRunN tok 4 ?_
    simp only [go_sem, Nat.reduceLT, Nat.reduceLeDiff, Nat.reduceEqDiff, Nat.reduceAdd, Nat.reduceMul, Nat.reduceSub, reduceIte, reduceCtorEq, encE, w1, w2, w3]
    refine ops_if 51 rfl (fun hg51 => ?_) (fun hg51 => ?_)
    · skip
      refine opsRunN tok 3 ?_
      simp only [go_sem, Nat.reduceLT, Nat.reduceLeDiff, Nat.reduceEqDiff, Nat.reduceAdd, Nat.reduceMul, Nat.reduceSub, reduceIte, reduceCtorEq, encE, w1, w2, w3]
      refine opsWp_nil ?_
      refine hK _ _ (awp_keepM [false, false, false, false, false, false, false, false, false, false, true, false, false, false, true, true, false, false, false, false, false, false, false, false, false, false, false, false, false, false, false, false, false, false, false, false, false, false, false, false, false, false, false, false, false, false, false, false, false, false, false, false, false, false, true] ?_)
      clear hK K
      try simp only [go_sem, Nat.reduceLT, Nat.reduceLeDiff, Nat.reduceEqDiff, Nat.reduceAdd, Nat.reduceMul, Nat.reduceSub, reduceIte, reduceCtorEq]
      refine awp_if rfl (fun hcc5 => ?_) (fun hcc5 => ?_)
      · skip
        rw [if_pos ⟨hg47, hg51, hcc5⟩] at hpe
        obtain ⟨rfl, rfl⟩ := hpe
        refine awp_seq_k fun K hK => ?_
        refine awp_region ?_
        refine opsRunN tok 3 ?_
        simp only [go_sem, Nat.reduceLT, Nat.reduceLeDiff, Nat.reduceEqDiff, Nat.reduceAdd, Nat.reduceMul, Nat.reduceSub, reduceIte, reduceCtorEq, encE, w1, w2, w3]
        refine ops_if 57 rfl (fun hg57 => ?_) (fun hg57 => ?_)
        · skip
          refine opsRunN tok 5 ?_
          simp only [go_sem, Nat.reduceLT, Nat.reduceLeDiff, Nat.reduceEqDiff, Nat.reduceAdd, Nat.reduceMul, Nat.reduceSub, reduceIte, reduceCtorEq, encE, w1, w2, w3]
          refine ops_if 62 rfl (fun hg62 => ?_) (fun hg62 => ?_)
          · skip
            refine opsWp_callD rfl rfl rfl (awake_pc_ev _) ?_
            rintro _ _ ⟨rfl, rfl⟩
            refine opsRunN tok 2 ?_
            simp only [go_sem, Nat.reduceLT, Nat.reduceLeDiff, Nat.reduceEqDiff, Nat.reduceAdd, Nat.reduceMul, Nat.reduceSub, reduceIte, reduceCtorEq, encE, w1, w2, w3]
            refine opsWp_nil ?_
            refine hK _ _ (awp_keepM [false, false, false, false, false, false, false, false, true] ?_)
            clear hK K
            try simp only [go_sem, Nat.reduceLT, Nat.reduceLeDiff, Nat.reduceEqDiff, Nat.reduceAdd, Nat.reduceMul, Nat.reduceSub, reduceIte, reduceCtorEq]
            refine awp_ret ?_
            simp only [retQ, resAll, resOne, resAV, exists_eq_left', go_sem, Nat.reduceLT, Nat.reduceLeDiff, Nat.reduceEqDiff, Nat.reduceAdd, Nat.reduceMul, Nat.reduceSub, reduceIte, reduceCtorEq, encE]
            first | rfl | (exfalso; omega) | (exfalso; simp_all; done)
          · skip
            refine opsRunN tok 3 ?_
            simp only [go_sem, Nat.reduceLT, Nat.reduceLeDiff, Nat.reduceEqDiff, Nat.reduceAdd, Nat.reduceMul, Nat.reduceSub, reduceIte, reduceCtorEq, encE, w1, w2, w3]
            refine opsWp_nil ?_
            refine hK _ _ (awp_keepM [false, false, false, false, false, false, false, false, true] ?_)
            clear hK K
            try simp only [go_sem, Nat.reduceLT, Nat.reduceLeDiff, Nat.reduceEqDiff, Nat.reduceAdd, Nat.reduceMul, Nat.reduceSub, reduceIte, reduceCtorEq]
            refine awp_ret ?_
            simp only [retQ, resAll, resOne, resAV, exists_eq_left', go_sem, Nat.reduceLT, Nat.reduceLeDiff, Nat.reduceEqDiff, Nat.reduceAdd, Nat.reduceMul, Nat.reduceSub, reduceIte, reduceCtorEq, encE]
            first | rfl | (exfalso; omega) | (exfalso; simp_all; done)
        · skip
          refine opsRunN tok 8 ?_
          simp only [go_sem, Nat.reduceLT, Nat.reduceLeDiff, Nat.reduceEqDiff, Nat.reduceAdd, Nat.reduceMul, Nat.reduceSub, reduceIte, reduceCtorEq, encE, w1, w2, w3]
          refine opsWp_nil ?_
          refine hK _ _ (awp_keepM [false, false, false, false, false, false, false, false, true] ?_)
          clear hK K
          try simp only [go_sem, Nat.reduceLT, Nat.reduceLeDiff, Nat.reduceEqDiff, Nat.reduceAdd, Nat.reduceMul, Nat.reduceSub, reduceIte, reduceCtorEq]
          refine awp_ret ?_
          simp only [retQ, resAll, resOne, resAV, exists_eq_left', go_sem, Nat.reduceLT, Nat.reduceLeDiff, Nat.reduceEqDiff, Nat.reduceAdd, Nat.reduceMul, Nat.reduceSub, reduceIte, reduceCtorEq, encE]
          first | rfl | (exfalso; omega) | (exfalso; simp_all; done)
      · skip
        refine awp_skip ?_
        refine hZ1 _ _ ?_
        rw [if_neg (by omega)] at hpe
        obtain ⟨rfl, hl⟩ := hpe
        refine awp_seq_k fun K hK => ?_
        refine awp_region ?_
        refine opsRunN tok 3 ?_
        simp only [go_sem, Nat.reduceLT, Nat.reduceLeDiff, Nat.reduceEqDiff, Nat.reduceAdd, Nat.reduceMul, Nat.reduceSub, reduceIte, reduceCtorEq, encE, w1, w2, w3]
        refine ops_if 67 rfl (fun hg67 => ?_) (fun hg67 => ?_)
        · skip
          refine opsRunN tok 7 ?_
          simp only [go_sem, Nat.reduceLT, Nat.reduceLeDiff, Nat.reduceEqDiff, Nat.reduceAdd, Nat.reduceMul, Nat.reduceSub, reduceIte, reduceCtorEq, encE, w1, w2, w3]
          refine ops_if 74 rfl (fun hg74 => ?_) (fun hg74 => ?_)
          · skip
            refine opsWp_callD rfl rfl rfl (awake_pc_ev _) ?_
            rintro _ _ ⟨rfl, rfl⟩
            refine opsRunN tok 2 ?_
            simp only [go_sem, Nat.reduceLT, Nat.reduceLeDiff, Nat.reduceEqDiff, Nat.reduceAdd, Nat.reduceMul, Nat.reduceSub, reduceIte, reduceCtorEq, encE, w1, w2, w3]
            refine opsWp_nil ?_
            refine hK _ _ (awp_keepM [false, false, false, false, false, false, false, false, true] ?_)
            clear hK K
            try simp only [go_sem, Nat.reduceLT, Nat.reduceLeDiff, Nat.reduceEqDiff, Nat.reduceAdd, Nat.reduceMul, Nat.reduceSub, reduceIte, reduceCtorEq]
            refine awp_ret ?_
            simp only [retQ, resAll, resOne, resAV, exists_eq_left', go_sem, Nat.reduceLT, Nat.reduceLeDiff, Nat.reduceEqDiff, Nat.reduceAdd, Nat.reduceMul, Nat.reduceSub, reduceIte, reduceCtorEq, encE]
            first | rfl | (exfalso; omega) | (exfalso; simp_all; done)
          · skip
            refine opsRunN tok 3 ?_
            simp only [go_sem, Nat.reduceLT, Nat.reduceLeDiff, Nat.reduceEqDiff, Nat.reduceAdd, Nat.reduceMul, Nat.reduceSub, reduceIte, reduceCtorEq, encE, w1, w2, w3]
            refine opsWp_nil ?_
            refine hK _ _ (awp_keepM [false, false, false, false, false, false, false, false, true] ?_)
            clear hK K
            try simp only [go_sem, Nat.reduceLT, Nat.reduceLeDiff, Nat.reduceEqDiff, Nat.reduceAdd, Nat.reduceMul, Nat.reduceSub, reduceIte, reduceCtorEq]
            refine awp_ret ?_
            simp only [retQ, resAll, resOne, resAV, exists_eq_left', go_sem, Nat.reduceLT, Nat.reduceLeDiff, Nat.reduceEqDiff, Nat.reduceAdd, Nat.reduceMul, Nat.reduceSub, reduceIte, reduceCtorEq, encE]
            first | rfl | (exfalso; omega) | (exfalso; simp_all; done)
        · skip
          refine opsRunN tok 8 ?_
          simp only [go_sem, Nat.reduceLT, Nat.reduceLeDiff, Nat.reduceEqDiff, Nat.reduceAdd, Nat.reduceMul, Nat.reduceSub, reduceIte, reduceCtorEq, encE, w1, w2, w3]
          refine opsRunN tok 2 ?_
          simp only [go_sem, Nat.reduceLT, Nat.reduceLeDiff, Nat.reduceEqDiff, Nat.reduceAdd, Nat.reduceMul, Nat.reduceSub, reduceIte, reduceCtorEq, encE, w1, w2, w3]
          refine opsWp_nil ?_
          refine hK _ _ (awp_keepM [false, false, false, false, false, false, false, false, true] ?_)
          clear hK K
          try simp only [go_sem, Nat.reduceLT, Nat.reduceLeDiff, Nat.reduceEqDiff, Nat.reduceAdd, Nat.reduceMul, Nat.reduceSub, reduceIte, reduceCtorEq]
          refine awp_ret ?_
          simp only [retQ, resAll, resOne, resAV, exists_eq_left', go_sem, Nat.reduceLT, Nat.reduceLeDiff, Nat.reduceEqDiff, Nat.reduceAdd, Nat.reduceMul, Nat.reduceSub, reduceIte, reduceCtorEq, encE]
          first | rfl | (exfalso; omega) | (exfalso; simp_all; done)
    · skip
      refine opsRunN tok 3 ?_
      simp only [go_sem, Nat.reduceLT, Nat.reduceLeDiff, Nat.reduceEqDiff, Nat.reduceAdd, Nat.reduceMul, Nat.reduceSub, reduceIte, reduceCtorEq, encE, w1, w2, w3]
      refine opsWp_nil ?_
      refine hK _ _ (awp_keepM [false, false, false, false, false, false, false, false, false, false, true, false, false, false, true, true, false, false, false, false, false, false, false, false, false, false, false, false, false, false, false, false, false, false, false, false, false, false, false, false, false, false, false, false, false, false, false, false, false, false, false, false, false, false, true] ?_)
      clear hK K
      try simp only [go_sem, Nat.reduceLT, Nat.reduceLeDiff, Nat.reduceEqDiff, Nat.reduceAdd, Nat.reduceMul, Nat.reduceSub, reduceIte, reduceCtorEq]
      refine awp_cond_f rfl ?_
      refine awp_skip ?_
      refine hZ1 _ _ ?_
      rw [if_neg (by omega)] at hpe
      obtain ⟨rfl, hl⟩ := hpe
      refine awp_seq_k fun K hK => ?_
      refine awp_region ?_
      refine opsRunN tok 3 ?_
      simp only [go_sem, Nat.reduceLT, Nat.reduceLeDiff, Nat.reduceEqDiff, Nat.reduceAdd, Nat.reduceMul, Nat.reduceSub, reduceIte, reduceCtorEq, encE, w1, w2, w3]
      refine ops_if 67 rfl (fun hg67 => ?_) (fun hg67 => ?_)
      · skip
        refine opsRunN tok 7 ?_
        simp only [go_sem, Nat.reduceLT, Nat.reduceLeDiff, Nat.reduceEqDiff, Nat.reduceAdd, Nat.reduceMul, Nat.reduceSub, reduceIte, reduceCtorEq, encE, w1, w2, w3]
        refine ops_if 74 rfl (fun hg74 => ?_) (fun hg74 => ?_)
        · skip
          refine opsWp_callD rfl rfl rfl (awake_pc_ev _) ?_
          rintro _ _ ⟨rfl, rfl⟩
          refine opsRunN tok 2 ?_
          simp only [go_sem, Nat.reduceLT, Nat.reduceLeDiff, Nat.reduceEqDiff, Nat.reduceAdd, Nat.reduceMul, Nat.reduceSub, reduceIte, reduceCtorEq, encE, w1, w2, w3]
          refine opsWp_nil ?_
          refine hK _ _ (awp_keepM [false, false, false, false, false, false, false, false, true] ?_)
          clear hK K
          try simp only [go_sem, Nat.reduceLT, Nat.reduceLeDiff, Nat.reduceEqDiff, Nat.reduceAdd, Nat.reduceMul, Nat.reduceSub, reduceIte, reduceCtorEq]
          refine awp_ret ?_
          simp only [retQ, resAll, resOne, resAV, exists_eq_left', go_sem, Nat.reduceLT, Nat.reduceLeDiff, Nat.reduceEqDiff, Nat.reduceAdd, Nat.reduceMul, Nat.reduceSub, reduceIte, reduceCtorEq, encE]
          first | rfl | (exfalso; omega) | (exfalso; simp_all; done)
        · skip
          refine opsRunN tok 3 ?_
          simp only [go_sem, Nat.reduceLT, Nat.reduceLeDiff, Nat.reduceEqDiff, Nat.reduceAdd, Nat.reduceMul, Nat.reduceSub, reduceIte, reduceCtorEq, encE, w1, w2, w3]
          refine opsWp_nil ?_
          refine hK _ _ (awp_keepM [false, false, false, false, false, false, false, false, true] ?_)
          clear hK K
          try simp only [go_sem, Nat.reduceLT, Nat.reduceLeDiff, Nat.reduceEqDiff, Nat.reduceAdd, Nat.reduceMul, Nat.reduceSub, reduceIte, reduceCtorEq]
          refine awp_ret ?_
          simp only [retQ, resAll, resOne, resAV, exists_eq_left', go_sem, Nat.reduceLT, Nat.reduceLeDiff, Nat.reduceEqDiff, Nat.reduceAdd, Nat.reduceMul, Nat.reduceSub, reduceIte, reduceCtorEq, encE]
          first | rfl | (exfalso; omega) | (exfalso; simp_all; done)
      · skip
        refine opsRunN tok 8 ?_
        simp only [go_sem, Nat.reduceLT, Nat.reduceLeDiff, Nat.reduceEqDiff, Nat.reduceAdd, Nat.reduceMul, Nat.reduceSub, reduceIte, reduceCtorEq, encE, w1, w2, w3]
        refine opsRunN tok 2 ?_
        simp only [go_sem, Nat.reduceLT, Nat.reduceLeDiff, Nat.reduceEqDiff, Nat.reduceAdd, Nat.reduceMul, Nat.reduceSub, reduceIte, reduceCtorEq, encE, w1, w2, w3]
        refine opsWp_nil ?_
        refine hK _ _ (awp_keepM [false, false, false, false, false, false, false, false, true] ?_)
        clear hK K
        try simp only [go_sem, Nat.reduceLT, Nat.reduceLeDiff, Nat.reduceEqDiff, Nat.reduceAdd, Nat.reduceMul, Nat.reduceSub, reduceIte, reduceCtorEq]
        refine awp_ret ?_
        simp only [retQ, resAll, resOne, resAV, exists_eq_left', go_sem, Nat.reduceLT, Nat.reduceLeDiff, Nat.reduceEqDiff, Nat.reduceAdd, Nat.reduceMul, Nat.reduceSub, reduceIte, reduceCtorEq, encE]
        first | rfl | (exfalso; omega) | (exfalso; simp_all; done)
  · skip
    refine opsRunN tok 7 ?_
    simp only [go_sem, Nat.reduceLT, Nat.reduceLeDiff, Nat.reduceEqDiff, Nat.reduceAdd, Nat.reduceMul, Nat.reduceSub, reduceIte, reduceCtorEq, encE, w1, w2, w3]
    refine opsWp_nil ?_
    refine hK _ _ (awp_keepM [false, false, false, false, false, false, false, false, false, false, true, false, false, false, true, true, false, false, false, false, false, false, false, false, false, false, false, false, false, false, false, false, false, false, false, false, false, false, false, false, false, false, false, false, false, false, false, false, false, false, false, false, false, false, true] ?_)
    clear hK K
    try simp only [go_sem, Nat.reduceLT, Nat.reduceLeDiff, Nat.reduceEqDiff, Nat.reduceAdd, Nat.reduceMul, Nat.reduceSub, reduceIte, reduceCtorEq]
    refine awp_cond_f rfl ?_
    refine awp_skip ?_
    refine hZ1 _ _ ?_
    rw [if_neg (by omega)] at hpe
    obtain ⟨rfl, hl⟩ := hpe
    refine awp_seq_k fun K hK => ?_
    refine awp_region ?_
    refine opsRunN tok 3 ?_
    simp only [go_sem, Nat.reduceLT, Nat.reduceLeDiff, Nat.reduceEqDiff, Nat.reduceAdd, Nat.reduceMul, Nat.reduceSub, reduceIte, reduceCtorEq, encE, w1, w2, w3]
    refine ops_if 67 rfl (fun hg67 => ?_) (fun hg67 => ?_)
    · skip
      refine opsRunN tok 7 ?_
      simp only [go_sem, Nat.reduceLT, Nat.reduceLeDiff, Nat.reduceEqDiff, Nat.reduceAdd, Nat.reduceMul, Nat.reduceSub, reduceIte, reduceCtorEq, encE, w1, w2, w3]
      refine ops_if 74 rfl (fun hg74 => ?_) (fun hg74 => ?_)
      · skip
        refine opsWp_callD rfl rfl rfl (awake_pc_ev _) ?_
        rintro _ _ ⟨rfl, rfl⟩
        refine opsRunN tok 2 ?_
        simp only [go_sem, Nat.reduceLT, Nat.reduceLeDiff, Nat.reduceEqDiff, Nat.reduceAdd, Nat.reduceMul, Nat.reduceSub, reduceIte, reduceCtorEq, encE, w1, w2, w3]
        refine opsWp_nil ?_
        refine hK _ _ (awp_keepM [false, false, false, false, false, false, false, false, true] ?_)
        clear hK K
        try simp only [go_sem, Nat.reduceLT, Nat.reduceLeDiff, Nat.reduceEqDiff, Nat.reduceAdd, Nat.reduceMul, Nat.reduceSub, reduceIte, reduceCtorEq]
        refine awp_ret ?_
        simp only [retQ, resAll, resOne, resAV, exists_eq_left', go_sem, Nat.reduceLT, Nat.reduceLeDiff, Nat.reduceEqDiff, Nat.reduceAdd, Nat.reduceMul, Nat.reduceSub, reduceIte, reduceCtorEq, encE]
        first | rfl | (exfalso; omega) | (exfalso; simp_all; done)
      · skip
        refine opsRunN tok 3 ?_
        simp only [go_sem, Nat.reduceLT, Nat.reduceLeDiff, Nat.reduceEqDiff, Nat.reduceAdd, Nat.reduceMul, Nat.reduceSub, reduceIte, reduceCtorEq, encE, w1, w2, w3]
        refine opsWp_nil ?_
        refine hK _ _ (awp_keepM [false, false, false, false, false, false, false, false, true] ?_)
        clear hK K
        try simp only [go_sem, Nat.reduceLT, Nat.reduceLeDiff, Nat.reduceEqDiff, Nat.reduceAdd, Nat.reduceMul, Nat.reduceSub, reduceIte, reduceCtorEq]
        refine awp_ret ?_
        simp only [retQ, resAll, resOne, resAV, exists_eq_left', go_sem, Nat.reduceLT, Nat.reduceLeDiff, Nat.reduceEqDiff, Nat.reduceAdd, Nat.reduceMul, Nat.reduceSub, reduceIte, reduceCtorEq, encE]
        first | rfl | (exfalso; omega) | (exfalso; simp_all; done)
    · skip
      refine opsRunN tok 8 ?_
      simp only [go_sem, Nat.reduceLT, Nat.reduceLeDiff, Nat.reduceEqDiff, Nat.reduceAdd, Nat.reduceMul, Nat.reduceSub, reduceIte, reduceCtorEq, encE, w1, w2, w3]
      refine opsRunN tok 2 ?_
      simp only [go_sem, Nat.reduceLT, Nat.reduceLeDiff, Nat.reduceEqDiff, Nat.reduceAdd, Nat.reduceMul, Nat.reduceSub, reduceIte, reduceCtorEq, encE, w1, w2, w3]
      refine opsWp_nil ?_
      refine hK _ _ (awp_keepM [false, false, false, false, false, false, false, false, true] ?_)
      clear hK K
      try simp only [go_sem, Nat.reduceLT, Nat.reduceLeDiff, Nat.reduceEqDiff, Nat.reduceAdd, Nat.reduceMul, Nat.reduceSub, reduceIte, reduceCtorEq]
      refine awp_ret ?_
      simp only [retQ, resAll, resOne, resAV, exists_eq_left', go_sem, Nat.reduceLT, Nat.reduceLeDiff, Nat.reduceEqDiff, Nat.reduceAdd, Nat.reduceMul, Nat.reduceSub, reduceIte, reduceCtorEq, encE]
      first | rfl | (exfalso; omega) | (exfalso; simp_all; done)

theorem pairs_pc_ev (v w a b : Int)  (σ : Store) : ACalls Try.prog 10 [.int .i64 v, .int .i64 w, .int .i64 a, .int .i64 b] σ fun r σ' => r = .bool true ∧ σ' = σ :=
  (pairs_pc v w a b).pureAt (by simp [AV.canon, canonL, canonL_N, canonL_E, canonL_encI, encE]) (by simp [AV.canon, canonL, canonL_N, canonL_E, canonL_encI, encE]) σ


end Go.Proofs.Ytplddidoobjcnaa
