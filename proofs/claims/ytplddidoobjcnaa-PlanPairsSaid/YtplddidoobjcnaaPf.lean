/- The planner's search: what it computes. -/
import Derived.Test.YtplddidoobjcnaaPe
set_option maxRecDepth 4000
set_option linter.unusedSimpArgs false
set_option linter.unusedVariables false
set_option linter.constructorNameAsVariable false
namespace Go.Proofs.Ytplddidoobjcnaa
open AM

/-- The search's memory. -/
def mem (es : List Ed) (ver : Nat) (M : List (List Int × Bool)) (st : List Int) : Store :=
  [.cells 0 [.ds true (es.flatMap encE) es.length false, .mp 1, .os true 1 2 ver 0 st.length false], .map (encM M), .cells ver (st.flatMap encI)]

theorem encI_one (x : Int) : (encI x).all AV.one = true := rfl

theorem canon_encM (s : Bool) (M : List (List Int × Bool)) : ∀ e ∈ encM M, e.1.canon s = true ∧ e.2.canon s = true := by
  intro e he
  obtain ⟨x, _, rfl⟩ := List.mem_map.1 he
  refine ⟨?_, rfl⟩
  show canonL s _ = true
  have := canonL_flatMap s encI (fun _ => rfl) x.1
  rwa [show x.1.flatMap encI = x.1.map (AV.int .i64) from by
    induction x.1 with
    | nil => rfl
    | cons a l ih => rw [List.flatMap_cons, ih]; rfl] at this

theorem encM_tell (M : List (List Int × Bool)) (σ : Store) (keep : List Nat) (ls : Bool) (f : Nat) : ((encM M).map fun e => (tell σ keep ls f e.1, tell σ keep ls f e.2)) = encM M := by
  have h := canon_encM ls M
  generalize encM M = l at h
  induction l with
  | nil => rfl
  | cons e l ih =>
    rw [List.map_cons, ih fun x hx => h x (List.mem_cons_of_mem _ hx), tell_canon _ _ _ _ _ (h e (List.mem_cons_self ..)).1, tell_canon _ _ _ _ _ (h e (List.mem_cons_self ..)).2]

theorem encM_ren (g : Nat → Nat) (M : List (List Int × Bool)) : ((encM M).map fun e => (e.1.ren g, e.2.ren g)) = encM M := by
  have h := canon_encM true M
  generalize encM M = l at h
  induction l with
  | nil => rfl
  | cons e l ih =>
    rw [List.map_cons, ih fun x hx => h x (List.mem_cons_of_mem _ hx), ren_canon g _ (h e (List.mem_cons_self ..)).1, ren_canon g _ (h e (List.mem_cons_self ..)).2]

theorem ren_0 (g : Nat → Nat) (h1 : g 1 = 1) (h2 : g 2 = 2) (es : List Ed) (ver len : Nat) : renO g (.cells 0 [.ds true (es.flatMap encE) es.length false, .mp 1, .os true 1 2 ver 0 len false]) = .cells 0 [.ds true (es.flatMap encE) es.length false, .mp 1, .os true 1 2 ver 0 len false] := by
  simp only [renO, renL, AV.ren, renL_canon g _ (canonL_E true es), h1, h2]

theorem ren_1 (g : Nat → Nat) (M : List (List Int × Bool)) : renO g (.map (encM M)) = .map (encM M) := by
  simp only [renO, encM_ren]

theorem ren_2 (g : Nat → Nat) (ver : Nat) (st : List Int) : renO g (.cells ver (st.flatMap encI)) = .cells ver (st.flatMap encI) := by
  simp only [renO, renL_canon g _ (canonL_encI true st)]

theorem mem_sees (es : List Ed) (ver : Nat) (M : List (List Int × Bool)) (st : List Int) (n : Nat) {σ : Store} (h : σ.take 3 = mem es ver M st) : [0, 1, 2].map (fun id => σ[id]?) = (mem es ver M st).map fun o => some (renO (bigId [0, 1, 2] n) o) := by
  have hi : ∀ i, i < 3 → σ[i]? = (mem es ver M st)[i]? := fun i hi => by rw [← h, List.getElem?_take, if_pos hi]
  simp only [List.map_cons, List.map_nil, hi 0 (by decide), hi 1 (by decide), hi 2 (by decide)]
  simp only [mem, List.map_cons, List.map_nil, List.getElem?_cons_zero, List.getElem?_cons_succ]
  rw [ren_0 _ rfl rfl, ren_1, ren_2]

theorem mem_put (es : List Ed) (ver : Nat) (M : List (List Int × Bool)) (st : List Int) (n : Nat) (a b c : AObj) (x : Store) : putAll (bigId [0, 1, 2] n) [0, 1, 2] (mem es ver M st) (a :: b :: c :: x) =
    .cells 0 [.ds true (es.flatMap encE) es.length false, .mp 1, .os true 1 2 ver 0 st.length false] :: .map (encM M) :: .cells ver (st.flatMap encI) :: x := by
  simp only [mem, putAll, List.set_cons_zero, List.set_cons_succ, List.map_nil, List.append_nil]
  rw [ren_0 _ rfl rfl, ren_1, ren_2]

theorem encI_snoc (st : List Int) (i : Int) : st.flatMap encI ++ [.int .i64 i] = (st ++ [i]).flatMap encI := by
  rw [List.flatMap_append]; rfl

def LeadsR (es : List Ed) (fr ns : List Nd) (st : List Int) (r : AV) (τ : Store) : Prop :=
  ∃ M ver, r = .bool (path es ns).isSome ∧ τ = mem es ver M (st ++ (path es ns).getD []) ∧ Dead es fr M

theorem leads_step (es : List Ed) (fr ns : List Nd) (st : List Int) (ver : Nat) (M : List (List Int × Bool)) (hes : es.length < 1024) (hl : ns.length ≤ 6) (hok : ns.all okN = true) (hfr : sameF fr ns) (hM : Dead es fr M) (hst : st.length + meas ns < 1000000) (IH : ∀ ms st' ver' M', meas ms < meas ns → ms.length ≤ 6 → ms.all okN = true → sameF fr ms → Dead es fr M' → st'.length + meas ms < 1000000 → ACalls Try.prog 41 [.op 0 0 0, .ds true (ms.flatMap encN) ms.length false] (mem es ver' M' st') (LeadsR es fr ms st')) : ACalls Try.prog 41 [.op 0 0 0, .ds true (ns.flatMap encN) ns.length false] (mem es ver M st) (fun r σ' => LeadsR es fr ns st r σ') := by
  refine acalls_st (rs := [.tmp 4]) [0, 1, 2] tok Try.func41 rfl Try.ntmps41 rfl Try.call41 (by simp) (by first | rfl | simp) ?_
  have hb : ns.length < 9223372036854775808 := by omega
  unfold mem
  have lk : ∀ (o : AObj) (x : Store), evLookup tab 73 (.mp 1) (.agg (stateA ns)) false (o :: .map (encM M) :: x) = some (.bool (getM M (verS ns))) := by
    intro o x; rw [stateA_eq]; exact lookup_enc (verS_len hl) hM.six rfl
  have s1 := state_one ns
  have s2 := stateA_len hl
  have s3 : setRun [.int .i64 0, .int .i64 0, .int .i64 0, .int .i64 0, .int .i64 0, .int .i64 0] 0 (stateA ns) = stateA ns := setRun_all (by rw [s2]; rfl)
  have s4 : (6 ≤ (stateA ns).length) = True := eq_true (by omega)
  have s5 : List.take 6 (stateA ns) = stateA ns := List.take_of_length_le (by omega)
  refine reg tok [true, true] fun K hK => ?_
  simp only [go_sem, Nat.reduceLT, Nat.reduceLeDiff, Nat.reduceEqDiff, Nat.reduceAdd, Nat.reduceMul, Nat.reduceSub, reduceIte, reduceCtorEq]
  refine hK _ _ ?_
  clear hK K
  refine awp_scope ?_
  refine awp_seq_k fun K hK => ?_
  refine awp_region ?_
  refine opsRunN tok 1 ?_
  simp only [go_sem, Nat.reduceLT, Nat.reduceLeDiff, Nat.reduceEqDiff, Nat.reduceAdd, Nat.reduceMul, Nat.reduceSub, reduceIte, reduceCtorEq, s1, s2, s3, s4]
  refine opsWp_callD rfl rfl rfl (of_pc_ev _ (by omega) _) ?_
  rintro _ _ ⟨rfl, rfl⟩
  refine opsRunN tok 2 ?_
  simp only [go_sem, Nat.reduceLT, Nat.reduceLeDiff, Nat.reduceEqDiff, Nat.reduceAdd, Nat.reduceMul, Nat.reduceSub, reduceIte, reduceCtorEq, s1, s2, s3, s4]
  refine opsWp_nil ?_
  refine hK _ _ (awp_keepM [true, true, false, false, false, true] ?_)
  clear hK K
  try simp only [go_sem, Nat.reduceLT, Nat.reduceLeDiff, Nat.reduceEqDiff, Nat.reduceAdd, Nat.reduceMul, Nat.reduceSub, reduceIte, reduceCtorEq]
  refine awp_seq_k fun Z1 hZ1 => ?_
  refine awp_seq_k fun K hK => ?_
  refine DW.start (T := tab) [.any, .any, .any, .at [], .at [], .at [], .any, .any, .any, .any, .any, .at [], .eff, .any, .any] [] ?_
  refine DW.runN tok 7 ?_
  simp only [go_sem, Nat.reduceLT, Nat.reduceLeDiff, Nat.reduceEqDiff, Nat.reduceAdd, Nat.reduceMul, Nat.reduceSub, reduceIte, reduceCtorEq, lk, s4, s5]
  refine DW.if 18 rfl (fun hg18 => ?_) (fun hg18 => ?_)
  · skip
    refine DW.runN tok 8 ?_
    simp only [go_sem, Nat.reduceLT, Nat.reduceLeDiff, Nat.reduceEqDiff, Nat.reduceAdd, Nat.reduceMul, Nat.reduceSub, reduceIte, reduceCtorEq, lk, s4, s5]
    refine DW.fin tok (by decide +kernel) rfl ?_
    refine hK _ _ (awp_keepM [true, true, false, false, false, true, false, false, false, false, false, false, false, false, false, false, false, false, false, false, false, false, false, false, false, false, true] ?_)
    clear hK K
    try simp only [go_sem, Nat.reduceLT, Nat.reduceLeDiff, Nat.reduceEqDiff, Nat.reduceAdd, Nat.reduceMul, Nat.reduceSub, reduceIte, reduceCtorEq]
    refine awp_cond_t rfl ?_
    refine reg tok [false, false, false, false, true] fun K hK => ?_
    simp only [go_sem, Nat.reduceLT, Nat.reduceLeDiff, Nat.reduceEqDiff, Nat.reduceAdd, Nat.reduceMul, Nat.reduceSub, reduceIte, reduceCtorEq]
    refine hK _ _ ?_
    clear hK K
    refine awp_ret ?_
    simp only [retQ, resAll, resOne, resAV, exists_eq_left', go_sem, Nat.reduceLT, Nat.reduceLeDiff, Nat.reduceEqDiff, Nat.reduceAdd, Nat.reduceMul, Nat.reduceSub, reduceIte, reduceCtorEq]
    have hp := hM.dead ns hfr hg18
    refine ⟨by decide, by simp, M, ver, ?_, ?_, hM⟩
    · simp [hp, tell_bool]
    · rw [hp]; unfold mem; simp [tell_u, tell_bool, tell_int, tell_str, tell_nilp, tell_nilm, tell_nilI, tell_nilF, tell_agg, tell_tup, tell_ifc, tell_ds, tell_dp, tell_op, tell_os, tell_mp, idxOf_nil, idxOf_cons, tellS_nil, tellS_cons, tellO_cells, tellO_map, tellO_iter, tellO_dead, store_get0, store_getS, tell_canonL, tell_canon, canonL, AV.canon, Bool.or_true, Bool.or_false, Bool.and_true, Bool.and_false, Bool.not_true, Bool.not_false, Option.some.injEq, canonL_N, canonL_E, canonL_encI, canonL_state, encM_tell]
  · skip
    refine DW.runN tok 5 ?_
    simp only [go_sem, Nat.reduceLT, Nat.reduceLeDiff, Nat.reduceEqDiff, Nat.reduceAdd, Nat.reduceMul, Nat.reduceSub, reduceIte, reduceCtorEq, lk, s4, s5]
    refine DW.call rfl rfl rfl (right_pc_ev _ _ (by first | assumption | omega | (simp; done)) (by first | assumption | omega | (simp; done)) _) ?_
    refine DW.runN tok 2 ?_
    simp only [go_sem, Nat.reduceLT, Nat.reduceLeDiff, Nat.reduceEqDiff, Nat.reduceAdd, Nat.reduceMul, Nat.reduceSub, reduceIte, reduceCtorEq, lk, s4, s5]
    refine DW.fin tok (by decide +kernel) rfl ?_
    refine hK _ _ (awp_keepM [true, true, false, false, false, true, false, false, false, false, false, false, false, false, false, false, false, false, false, false, false, false, false, false, false, false, true] ?_)
    clear hK K
    try simp only [go_sem, Nat.reduceLT, Nat.reduceLeDiff, Nat.reduceEqDiff, Nat.reduceAdd, Nat.reduceMul, Nat.reduceSub, reduceIte, reduceCtorEq]
    refine awp_if rfl (fun hcc3 => ?_) (fun hcc3 => ?_)
    · skip
      refine reg tok [false, false, false, false, true] fun K hK => ?_
      simp only [go_sem, Nat.reduceLT, Nat.reduceLeDiff, Nat.reduceEqDiff, Nat.reduceAdd, Nat.reduceMul, Nat.reduceSub, reduceIte, reduceCtorEq]
      refine hK _ _ ?_
      clear hK K
      refine awp_ret ?_
      simp only [retQ, resAll, resOne, resAV, exists_eq_left', go_sem, Nat.reduceLT, Nat.reduceLeDiff, Nat.reduceEqDiff, Nat.reduceAdd, Nat.reduceMul, Nat.reduceSub, reduceIte, reduceCtorEq]
      have hp : path es ns = none := by rw [path_eq hok, hcc3]; rfl
      refine ⟨by decide, by simp, M, ver, ?_, ?_, hM⟩
      · simp [hp, tell_bool]
      · rw [hp]; unfold mem; simp [tell_u, tell_bool, tell_int, tell_str, tell_nilp, tell_nilm, tell_nilI, tell_nilF, tell_agg, tell_tup, tell_ifc, tell_ds, tell_dp, tell_op, tell_os, tell_mp, idxOf_nil, idxOf_cons, tellS_nil, tellS_cons, tellO_cells, tellO_map, tellO_iter, tellO_dead, store_get0, store_getS, tell_canonL, tell_canon, canonL, AV.canon, Bool.or_true, Bool.or_false, Bool.and_true, Bool.and_false, Bool.not_true, Bool.not_false, Option.some.injEq, canonL_N, canonL_E, canonL_encI, canonL_state, encM_tell]
    · skip
      refine awp_skip ?_
      refine hZ1 _ _ ?_
      refine reg tok [true, true, false, false, false, true, true] fun K hK => ?_
      simp only [go_sem, Nat.reduceLT, Nat.reduceLeDiff, Nat.reduceEqDiff, Nat.reduceAdd, Nat.reduceMul, Nat.reduceSub, reduceIte, reduceCtorEq]
      refine hK _ _ ?_
      clear hK K
      refine awp_seq_k fun K hK => awp_label ?_
      refine hK _ _ ?_
      clear hK K
      refine awp_seq_k fun Z4 hZ4 => ?_
      refine reg tok [true, true, false, false, false, true, true, false, false, false, false, false, false, false, false, false, false, false, false, false, false, false, false, false, false, false, false, false, true, true] fun K hK => ?_
      simp only [go_sem, Nat.reduceLT, Nat.reduceLeDiff, Nat.reduceEqDiff, Nat.reduceAdd, Nat.reduceMul, Nat.reduceSub, reduceIte, reduceCtorEq]
      refine hK _ _ ?_
      clear hK K
      refine awp_block ?_
      refine awp_loopT (fun m L τ => ∃ (c i : Nat) (ver : Nat) (M : List (List Int × Bool)) (dn : Bool), m = 0 + c ∧ L = ([(.op 0 0 0), (.ds true (ns.flatMap encN) ns.length false), .u, .u, .u, (.op 3 0 0), (.bool dn), .u, .u, .u, .u, .u, .u, .u, .u, .u, .u, .u, .u, .u, .u, .u, .u, .u, .u, .u, .u, .u, (.int .i64 ns.length), (.int .i64 i)] : List AV) ∧ τ = ([.cells 0 [.ds true (es.flatMap encE) es.length false, .mp 1, .os true 1 2 ver 0 st.length false], .map (encM M), .cells ver (st.flatMap encI), .cells 0 (stateA ns)] : Store) ∧ i + c = ns.length ∧ tryF (path es) ns ns.length 0 = tryF (path es) ns c i ∧ Dead es fr M ∧ dn = doneTo ns i) _ ⟨ns.length, 0, ver, M, true, rfl, rfl, rfl, by exact ⟨by simp, rfl, hM, rfl⟩⟩ ?_ ?_
      · exact Tells.mk' [0, 1, 2, 3] false 12 (by decide) (by simp) (by first | rfl | simp) (by first | rfl | simp [tell_u, tell_bool, tell_int, tell_str, tell_nilp, tell_nilm, tell_nilI, tell_nilF, tell_agg, tell_tup, tell_ifc, tell_ds, tell_dp, tell_op, tell_os, tell_mp, idxOf_nil, idxOf_cons, tellS_nil, tellS_cons, tellO_cells, tellO_map, tellO_iter, tellO_dead, store_get0, store_getS, tell_canonL, tell_canon, canonL, AV.canon, Bool.or_true, Bool.or_false, Bool.and_true, Bool.and_false, Bool.not_true, Bool.not_false, Option.some.injEq, canonL_N, canonL_E, canonL_encI, canonL_state, encM_tell]) ⟨.inr (by first | rfl | simp [tell_u, tell_bool, tell_int, tell_str, tell_nilp, tell_nilm, tell_nilI, tell_nilF, tell_agg, tell_tup, tell_ifc, tell_ds, tell_dp, tell_op, tell_os, tell_mp, idxOf_nil, idxOf_cons, tellS_nil, tellS_cons, tellO_cells, tellO_map, tellO_iter, tellO_dead, store_get0, store_getS, tell_canonL, tell_canon, canonL, AV.canon, Bool.or_true, Bool.or_false, Bool.and_true, Bool.and_false, Bool.not_true, Bool.not_false, Option.some.injEq]), .inr (by first | exact tell_canon _ _ _ (.ds true (ns.flatMap encN) ns.length false) 12 (by simp [AV.canon, canonL, canonL_N, canonL_E, canonL_encI, canonL_state, encM_tell]) | rfl), .inl rfl, .inl rfl, .inl rfl, .inr (by first | rfl | simp [tell_u, tell_bool, tell_int, tell_str, tell_nilp, tell_nilm, tell_nilI, tell_nilF, tell_agg, tell_tup, tell_ifc, tell_ds, tell_dp, tell_op, tell_os, tell_mp, idxOf_nil, idxOf_cons, tellS_nil, tellS_cons, tellO_cells, tellO_map, tellO_iter, tellO_dead, store_get0, store_getS, tell_canonL, tell_canon, canonL, AV.canon, Bool.or_true, Bool.or_false, Bool.and_true, Bool.and_false, Bool.not_true, Bool.not_false, Option.some.injEq]), .inr (by first | exact tell_canon _ _ _ (.bool dn) 12 (by simp [AV.canon, canonL, canonL_N, canonL_E, canonL_encI, canonL_state, encM_tell]) | rfl), .inl rfl, .inl rfl, .inl rfl, .inl rfl, .inl rfl, .inl rfl, .inl rfl, .inl rfl, .inl rfl, .inl rfl, .inl rfl, .inl rfl, .inl rfl, .inl rfl, .inl rfl, .inl rfl, .inl rfl, .inl rfl, .inl rfl, .inl rfl, .inl rfl, .inr (by first | exact tell_canon _ _ _ (.int .i64 ns.length) 12 (by simp [AV.canon, canonL, canonL_N, canonL_E, canonL_encI, canonL_state, encM_tell]) | rfl), .inr (by first | exact tell_canon _ _ _ (.int .i64 i) 12 (by simp [AV.canon, canonL, canonL_N, canonL_E, canonL_encI, canonL_state, encM_tell]) | rfl), trivial⟩
      rintro m L τ ⟨c, i, ver, M, dn, rfl, rfl, rfl, hc, hT, hD, hdn⟩
      refine reg tok [true, true, false, false, false, true, true, false, false, false, false, false, false, false, false, false, false, false, false, false, false, false, false, false, false, false, false, false, true, true, true] fun K hK => ?_
      simp only [go_sem, Nat.reduceLT, Nat.reduceLeDiff, Nat.reduceEqDiff, Nat.reduceAdd, Nat.reduceMul, Nat.reduceSub, reduceIte, reduceCtorEq]
      refine hK _ _ ?_
      clear hK K
      refine awp_seq_k fun Z5 hZ5 => ?_
      refine awp_if rfl (fun hcc6 => ?_) (fun hcc6 => ?_)
      · skip
        obtain ⟨c, rfl⟩ : ∃ c', c = c' + 1 := ⟨c - 1, by omega⟩
        have w3 : IntKind.i64.wrap ((i : Int) + 1) = ((i + 1 : Nat) : Int) := by rw [i64_in (by omega) (by omega)]; simp
        refine awp_skip ?_
        refine hZ5 _ _ ?_
        refine awp_seq_k fun Z7 hZ7 => ?_
        refine awp_block ?_
        refine reg tok [true, true, false, false, false, true, true, true, false, false, false, false, false, false, false, false, false, false, false, false, false, false, false, false, false, false, false, false, true, true] fun K hK => ?_
        simp only [go_sem, Nat.reduceLT, Nat.reduceLeDiff, Nat.reduceEqDiff, Nat.reduceAdd, Nat.reduceMul, Nat.reduceSub, reduceIte, reduceCtorEq, w3]
        refine hK _ _ ?_
        clear hK K
        refine awp_seq_k fun K hK => ?_
        refine awp_region ?_
        refine opsRunN tok 2 ?_
        simp only [go_sem, Nat.reduceLT, Nat.reduceLeDiff, Nat.reduceEqDiff, Nat.reduceAdd, Nat.reduceMul, Nat.reduceSub, reduceIte, reduceCtorEq, w3]
        refine opsWp_callD rfl rfl rfl (after_pc_ev _ _ (by first | assumption | omega | (simp; done)) _) ?_
        rintro _ _ ⟨rfl, rfl⟩
        refine opsRunN tok 5 ?_
        simp only [go_sem, Nat.reduceLT, Nat.reduceLeDiff, Nat.reduceEqDiff, Nat.reduceAdd, Nat.reduceMul, Nat.reduceSub, reduceIte, reduceCtorEq, w3]
        refine opsWp_nil ?_
        refine hK _ _ (awp_keepM [true, true, false, false, false, true, true, true, true, true, false, false, false, false, false, false, false, false, false, false, false, false, false, false, false, false, false, false, true, true] ?_)
        clear hK K
        try simp only [go_sem, Nat.reduceLT, Nat.reduceLeDiff, Nat.reduceEqDiff, Nat.reduceAdd, Nat.reduceMul, Nat.reduceSub, reduceIte, reduceCtorEq]
        refine awp_seq_k fun Z8 hZ8 => ?_
        refine reg tok [true, true, false, false, false, true, true, true, true, false, false, false, false, false, false, false, false, false, false, false, false, false, false, false, false, false, false, false, true, true, false, false, false, false, false, false, false, false, false, true] fun K hK => ?_
        simp only [go_sem, Nat.reduceLT, Nat.reduceLeDiff, Nat.reduceEqDiff, Nat.reduceAdd, Nat.reduceMul, Nat.reduceSub, reduceIte, reduceCtorEq, w3]
        refine hK _ _ ?_
        clear hK K
        refine awp_if rfl (fun hcc9 => ?_) (fun hcc9 => ?_)
        · skip
          refine awp_exit ?_
          refine hZ7 _ _ ?_
          refine regEnd tok ?_
          simp only [go_sem, Nat.reduceLT, Nat.reduceLeDiff, Nat.reduceEqDiff, Nat.reduceAdd, Nat.reduceMul, Nat.reduceSub, reduceIte, reduceCtorEq, w3]
          refine ⟨_, _, _, ?_, ⟨c, i + 1, ver, M, dn, rfl, rfl, rfl, ?_⟩, ?_⟩
          · simp
          · exact ⟨by omega, by rw [hT]; simp [tryF, hcc9], hD, by rw [doneTo_succ, hcc9, hdn]; simp⟩
          · exact Tells.mk' [0, 1, 2, 3] false 12 (by decide) (by simp) (by first | rfl | simp) (by first | rfl | simp [tell_u, tell_bool, tell_int, tell_str, tell_nilp, tell_nilm, tell_nilI, tell_nilF, tell_agg, tell_tup, tell_ifc, tell_ds, tell_dp, tell_op, tell_os, tell_mp, idxOf_nil, idxOf_cons, tellS_nil, tellS_cons, tellO_cells, tellO_map, tellO_iter, tellO_dead, store_get0, store_getS, tell_canonL, tell_canon, canonL, AV.canon, Bool.or_true, Bool.or_false, Bool.and_true, Bool.and_false, Bool.not_true, Bool.not_false, Option.some.injEq, canonL_N, canonL_E, canonL_encI, canonL_state, encM_tell]) ⟨.inr (by first | rfl | simp [tell_u, tell_bool, tell_int, tell_str, tell_nilp, tell_nilm, tell_nilI, tell_nilF, tell_agg, tell_tup, tell_ifc, tell_ds, tell_dp, tell_op, tell_os, tell_mp, idxOf_nil, idxOf_cons, tellS_nil, tellS_cons, tellO_cells, tellO_map, tellO_iter, tellO_dead, store_get0, store_getS, tell_canonL, tell_canon, canonL, AV.canon, Bool.or_true, Bool.or_false, Bool.and_true, Bool.and_false, Bool.not_true, Bool.not_false, Option.some.injEq]), .inr (by first | exact tell_canon _ _ _ (.ds true (ns.flatMap encN) ns.length false) 12 (by simp [AV.canon, canonL, canonL_N, canonL_E, canonL_encI, canonL_state, encM_tell]) | rfl), .inl rfl, .inl rfl, .inl rfl, .inr (by first | rfl | simp [tell_u, tell_bool, tell_int, tell_str, tell_nilp, tell_nilm, tell_nilI, tell_nilF, tell_agg, tell_tup, tell_ifc, tell_ds, tell_dp, tell_op, tell_os, tell_mp, idxOf_nil, idxOf_cons, tellS_nil, tellS_cons, tellO_cells, tellO_map, tellO_iter, tellO_dead, store_get0, store_getS, tell_canonL, tell_canon, canonL, AV.canon, Bool.or_true, Bool.or_false, Bool.and_true, Bool.and_false, Bool.not_true, Bool.not_false, Option.some.injEq]), .inr (by first | exact tell_canon _ _ _ (.bool dn) 12 (by simp [AV.canon, canonL, canonL_N, canonL_E, canonL_encI, canonL_state, encM_tell]) | rfl), .inl rfl, .inl rfl, .inl rfl, .inl rfl, .inl rfl, .inl rfl, .inl rfl, .inl rfl, .inl rfl, .inl rfl, .inl rfl, .inl rfl, .inl rfl, .inl rfl, .inl rfl, .inl rfl, .inl rfl, .inl rfl, .inl rfl, .inl rfl, .inl rfl, .inr (by first | exact tell_canon _ _ _ (.int .i64 ns.length) 12 (by simp [AV.canon, canonL, canonL_N, canonL_E, canonL_encI, canonL_state, encM_tell]) | rfl), .inr (by first | exact tell_canon _ _ _ (.int .i64 i) 12 (by simp [AV.canon, canonL, canonL_N, canonL_E, canonL_encI, canonL_state, encM_tell]) | rfl), trivial⟩
        · skip
          have hcan : canB ns (i : Int) = true := hcc9
          have hm1 := meas_after hok hcan
          have a1 : ((st.length + 1) * 8 ≤ 140737488355328) = True := eq_true (by omega)
          have a2 : (st.flatMap encI).length = st.length * 1 := enc_length (enc := encI) (sz := 1) (fun _ => rfl) st
          have harg : renL (bigId [0, 1, 2] 5) [.op 0 0 0, .ds true ((afterL ns i).flatMap encN) (afterL ns i).length false] = [.op 0 0 0, .ds true ((afterL ns i).flatMap encN) (afterL ns i).length false] := by
            simp only [renL, AV.ren, renL_canon _ _ (canonL_N true (afterL ns i))]; rfl
          have hsee : List.take 3 [AObj.cells 0 [.ds true (es.flatMap encE) es.length false, .mp 1, .os true 1 2 (ver + 1) 0 (st.length + 1) false], .map (encM M), .cells (ver + 1) (st.flatMap encI ++ [.int .i64 i]), .cells 0 (stateA ns), .cells 0 [.int .i64 i]] = mem es (ver + 1) M (st ++ [(i : Int)]) := by
            rw [encI_snoc]; simp [mem]
          refine awp_skip ?_
          refine hZ8 _ _ ?_
          refine reg tok [true, true, false, false, false, true, true, true, true, false, false, false, false, false, false, false, false, false, false, false, false, false, false, false, false, false, false, false, true, true] fun K hK => ?_
          simp only [go_sem, Nat.reduceLT, Nat.reduceLeDiff, Nat.reduceEqDiff, Nat.reduceAdd, Nat.reduceMul, Nat.reduceSub, reduceIte, reduceCtorEq, w3]
          refine hK _ _ ?_
          clear hK K
          refine reg tok [true, true, false, false, false, true, true, false, true, false, false, false, false, false, false, false, false, false, false, false, false, false, false, false, false, false, false, false, true, true] fun K hK => ?_
          simp only [go_sem, Nat.reduceLT, Nat.reduceLeDiff, Nat.reduceEqDiff, Nat.reduceAdd, Nat.reduceMul, Nat.reduceSub, reduceIte, reduceCtorEq, evBuildSlice, zeroRun, evAppendTo, lenOfAV, srcCells, w3, evAppend, a1, a2, List.range_succ, List.range_zero, true_and, Nat.reduceMod, encI_one]
          refine hK _ _ ?_
          clear hK K
          refine awp_seq_k fun Z10 hZ10 => ?_
          refine awp_seq_k fun K hK => ?_
          refine awp_region ?_
          refine opsRunN tok 2 ?_
          simp only [go_sem, Nat.reduceLT, Nat.reduceLeDiff, Nat.reduceEqDiff, Nat.reduceAdd, Nat.reduceMul, Nat.reduceSub, reduceIte, reduceCtorEq, w3]
          have hx := (IH (afterL ns i) (st ++ [(i : Int)]) (ver + 1) M (by omega) (by rw [afterL_length hcan]; exact hl) (afterL_ok hok hcan) (hfr.trans (sameF_after hcan)) hD (by simp; omega))
          refine opsWp_callD rfl rfl rfl (hx.embed [0, 1, 2] (by decide) (by simp) (mem_sees es (ver + 1) M (st ++ [(i : Int)]) _ hsee) harg) ?_
          rintro _ _ ⟨_, _, ⟨M', ver', rfl, rfl, hD'⟩, rfl, rfl⟩
          refine opsWp_nil ?_
          refine hK _ _ (awp_keepM [true, true, false, false, false, true, true, false, false, false, false, false, false, false, false, false, false, false, false, false, false, false, false, false, false, false, false, false, true, true, false, false, false, false, false, false, false, false, false, false, false, false, false, false, false, false, false, false, false, false, false, false, true] ?_)
          clear hK K
          try simp only [go_sem, Nat.reduceLT, Nat.reduceLeDiff, Nat.reduceEqDiff, Nat.reduceAdd, Nat.reduceMul, Nat.reduceSub, reduceIte, reduceCtorEq]
          rw [mem_put]
          refine awp_if rfl (fun hcc11 => ?_) (fun hcc11 => ?_)
          · skip
            refine reg tok [false, false, false, false, true] fun K hK => ?_
            simp only [go_sem, Nat.reduceLT, Nat.reduceLeDiff, Nat.reduceEqDiff, Nat.reduceAdd, Nat.reduceMul, Nat.reduceSub, reduceIte, reduceCtorEq, w3]
            refine hK _ _ ?_
            clear hK K
            refine awp_ret ?_
            simp only [retQ, resAll, resOne, resAV, exists_eq_left', go_sem, Nat.reduceLT, Nat.reduceLeDiff, Nat.reduceEqDiff, Nat.reduceAdd, Nat.reduceMul, Nat.reduceSub, reduceIte, reduceCtorEq]
            obtain ⟨l, hl'⟩ := Option.isSome_iff_exists.1 hcc11
            have hnd : doneTo ns ns.length = false := by
              rw [doneTo, List.all_eq_false]
              exact ⟨i, by simp; omega, by simp [hcan]⟩
            have hp : path es ns = some ((i : Int) :: l) := by
              rw [path_eq hok, hcc3, hnd, hT]
              simp [tryF, hcan, hl']
            refine ⟨by decide, by simp, M', ver', ?_, ?_, hD'⟩
            · simp [hp, tell_bool]
            · rw [hp, hl']; unfold mem; simp [tell_u, tell_bool, tell_int, tell_str, tell_nilp, tell_nilm, tell_nilI, tell_nilF, tell_agg, tell_tup, tell_ifc, tell_ds, tell_dp, tell_op, tell_os, tell_mp, idxOf_nil, idxOf_cons, tellS_nil, tellS_cons, tellO_cells, tellO_map, tellO_iter, tellO_dead, store_get0, store_getS, tell_canonL, tell_canon, canonL, AV.canon, Bool.or_true, Bool.or_false, Bool.and_true, Bool.and_false, Bool.not_true, Bool.not_false, Option.some.injEq, canonL_N, canonL_E, canonL_encI, canonL_state, encM_tell]; simp [encI, tell_int]
          · skip
            have hpn : path es (afterL ns i) = none := by simpa using hcc11
            simp only [hpn, Option.getD_none, List.append_nil, List.length_append, List.length_cons, List.length_nil, Nat.zero_add]
            have b1 : IntKind.i64.wrap (((st.length + 1 : Nat) : Int) - 1) = (st.length : Int) := by rw [i64_in (by omega) (by omega)]; omega
            have b2 : ((st.length : Int) ≤ ((st.length + 1 : Nat) : Int)) = True := eq_true (by omega)
            have b3 : (0 ≤ (st.length : Int)) = True := eq_true (by omega)
            refine awp_skip ?_
            refine hZ10 _ _ ?_
            refine awp_trunc (id := 2) (by exact Store.at_tl.trans (Store.at_tl.trans (Store.at_hd.trans (if_pos rfl)))) st.length ?_
            simp only [go_sem, List.flatMap_append]
            rw [List.take_append_of_le_length (by rw [a2]; omega), List.take_of_length_le (by rw [a2]; omega)]
            refine DW.start (T := tab) [.any, .any, .any, .any, .at [], .any, .any, .any, .at [], .at [], .any, .any, .any, .any, .eff] [0] ?_
            refine DW.runN tok 8 ?_
            simp only [go_sem, Nat.reduceLT, Nat.reduceLeDiff, Nat.reduceEqDiff, Nat.reduceAdd, Nat.reduceMul, Nat.reduceSub, reduceIte, reduceCtorEq, w3, evSlice, optI, Bool.false_and, b1, b2, b3, Int.toNat_natCast, Nat.sub_zero, Nat.zero_mul, Int.toNat_zero, Int.reduceLE]
            refine DW.runN tok 7 ?_
            simp only [go_sem, Nat.reduceLT, Nat.reduceLeDiff, Nat.reduceEqDiff, Nat.reduceAdd, Nat.reduceMul, Nat.reduceSub, reduceIte, reduceCtorEq, evSlice, optI, cutOf, w3, Bool.false_and, b1, b2, b3, Int.toNat_natCast, Nat.sub_zero, Nat.zero_mul, Int.toNat_zero, Int.reduceLE]
            refine DW.fin tok (by decide +kernel) rfl ?_
            refine hZ7 _ _ ?_
            refine regEnd tok ?_
            simp only [go_sem, Nat.reduceLT, Nat.reduceLeDiff, Nat.reduceEqDiff, Nat.reduceAdd, Nat.reduceMul, Nat.reduceSub, reduceIte, reduceCtorEq, w3]
            refine ⟨_, _, _, ?_, ⟨c, i + 1, ver', M', false, rfl, rfl, rfl, ?_⟩, ?_⟩
            · simp
            · exact ⟨by omega, by rw [hT]; simp [tryF, hcan, hpn], hD', by rw [doneTo_succ, hcan]; simp⟩
            · exact Tells.mk' [0, 1, 2, 3] false 12 (by decide) (by simp) (by first | rfl | simp) (by first | rfl | simp [tell_u, tell_bool, tell_int, tell_str, tell_nilp, tell_nilm, tell_nilI, tell_nilF, tell_agg, tell_tup, tell_ifc, tell_ds, tell_dp, tell_op, tell_os, tell_mp, idxOf_nil, idxOf_cons, tellS_nil, tellS_cons, tellO_cells, tellO_map, tellO_iter, tellO_dead, store_get0, store_getS, tell_canonL, tell_canon, canonL, AV.canon, Bool.or_true, Bool.or_false, Bool.and_true, Bool.and_false, Bool.not_true, Bool.not_false, Option.some.injEq, canonL_N, canonL_E, canonL_encI, canonL_state, encM_tell]) ⟨.inr (by first | rfl | simp [tell_u, tell_bool, tell_int, tell_str, tell_nilp, tell_nilm, tell_nilI, tell_nilF, tell_agg, tell_tup, tell_ifc, tell_ds, tell_dp, tell_op, tell_os, tell_mp, idxOf_nil, idxOf_cons, tellS_nil, tellS_cons, tellO_cells, tellO_map, tellO_iter, tellO_dead, store_get0, store_getS, tell_canonL, tell_canon, canonL, AV.canon, Bool.or_true, Bool.or_false, Bool.and_true, Bool.and_false, Bool.not_true, Bool.not_false, Option.some.injEq]), .inr (by first | exact tell_canon _ _ _ (.ds true (ns.flatMap encN) ns.length false) 12 (by simp [AV.canon, canonL, canonL_N, canonL_E, canonL_encI, canonL_state, encM_tell]) | rfl), .inl rfl, .inl rfl, .inl rfl, .inr (by first | rfl | simp [tell_u, tell_bool, tell_int, tell_str, tell_nilp, tell_nilm, tell_nilI, tell_nilF, tell_agg, tell_tup, tell_ifc, tell_ds, tell_dp, tell_op, tell_os, tell_mp, idxOf_nil, idxOf_cons, tellS_nil, tellS_cons, tellO_cells, tellO_map, tellO_iter, tellO_dead, store_get0, store_getS, tell_canonL, tell_canon, canonL, AV.canon, Bool.or_true, Bool.or_false, Bool.and_true, Bool.and_false, Bool.not_true, Bool.not_false, Option.some.injEq]), .inr (by first | exact tell_canon _ _ _ (.bool dn) 12 (by simp [AV.canon, canonL, canonL_N, canonL_E, canonL_encI, canonL_state, encM_tell]) | rfl), .inl rfl, .inl rfl, .inl rfl, .inl rfl, .inl rfl, .inl rfl, .inl rfl, .inl rfl, .inl rfl, .inl rfl, .inl rfl, .inl rfl, .inl rfl, .inl rfl, .inl rfl, .inl rfl, .inl rfl, .inl rfl, .inl rfl, .inl rfl, .inl rfl, .inr (by first | exact tell_canon _ _ _ (.int .i64 ns.length) 12 (by simp [AV.canon, canonL, canonL_N, canonL_E, canonL_encI, canonL_state, encM_tell]) | rfl), .inr (by first | exact tell_canon _ _ _ (.int .i64 i) 12 (by simp [AV.canon, canonL, canonL_N, canonL_E, canonL_encI, canonL_state, encM_tell]) | rfl), trivial⟩
      · skip
        refine awp_exit ?_
        refine hZ4 _ _ ?_
        have lu : ∀ (o : AObj) (x : Store) (b : Bool), evMapUpdate tab 73 (.mp 1) (.agg (stateA ns)) (.bool b) (o :: .map (encM M) :: x) = some (o :: .map (encM (setM M (verS ns) b)) :: x) := by
          intro o x b; rw [stateA_eq]; exact update_enc (verS_len hl) hD.six rfl b
        refine awp_seq_k fun K hK => ?_
        refine DW.start (T := tab) [.any, .any, .any, .at [], .at [], .any, .any, .eff] [1] ?_
        refine DW.runN tok 8 ?_
        simp only [go_sem, Nat.reduceLT, Nat.reduceLeDiff, Nat.reduceEqDiff, Nat.reduceAdd, Nat.reduceMul, Nat.reduceSub, reduceIte, reduceCtorEq, s4, s5, lu]
        refine DW.fin tok (by decide +kernel) rfl ?_
        refine hK _ _ (awp_keepM [false, false, false, false, false, false, true] ?_)
        clear hK K
        try simp only [go_sem, Nat.reduceLT, Nat.reduceLeDiff, Nat.reduceEqDiff, Nat.reduceAdd, Nat.reduceMul, Nat.reduceSub, reduceIte, reduceCtorEq]
        refine reg tok [false, false, false, false, true] fun K hK => ?_
        simp only [go_sem, Nat.reduceLT, Nat.reduceLeDiff, Nat.reduceEqDiff, Nat.reduceAdd, Nat.reduceMul, Nat.reduceSub, reduceIte, reduceCtorEq]
        refine hK _ _ ?_
        clear hK K
        refine awp_ret ?_
        simp only [retQ, resAll, resOne, resAV, exists_eq_left', go_sem, Nat.reduceLT, Nat.reduceLeDiff, Nat.reduceEqDiff, Nat.reduceAdd, Nat.reduceMul, Nat.reduceSub, reduceIte, reduceCtorEq]
        obtain rfl : c = 0 := by omega
        obtain rfl : i = ns.length := by omega
        have hp : path es ns = if dn then some [] else none := by
          rw [path_eq hok, hcc3, hdn, hT]; rfl
        refine ⟨by decide, by simp, setM M (verS ns) (!dn), ver, ?_, ?_, hD.set hfr hl _ (by rw [hp]; cases dn <;> simp)⟩
        · rw [hp, tell_bool]; cases dn <;> rfl
        · rw [hp]; unfold mem; cases dn <;> simp [tell_u, tell_bool, tell_int, tell_str, tell_nilp, tell_nilm, tell_nilI, tell_nilF, tell_agg, tell_tup, tell_ifc, tell_ds, tell_dp, tell_op, tell_os, tell_mp, idxOf_nil, idxOf_cons, tellS_nil, tellS_cons, tellO_cells, tellO_map, tellO_iter, tellO_dead, store_get0, store_getS, tell_canonL, tell_canon, canonL, AV.canon, Bool.or_true, Bool.or_false, Bool.and_true, Bool.and_false, Bool.not_true, Bool.not_false, Option.some.injEq, canonL_N, canonL_E, canonL_encI, canonL_state, encM_tell]


end Go.Proofs.Ytplddidoobjcnaa
