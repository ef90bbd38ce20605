/- The planner's functions: what they compute (second part). -/
import Derived.Test.YtplddidoobjcnaaPa
set_option maxRecDepth 4000
set_option linter.unusedSimpArgs false
set_option linter.unusedVariables false
set_option linter.constructorNameAsVariable false
namespace Go.Proofs.Ytplddidoobjcnaa
open AM

theorem encN_one (x : Nd) : (encN x).all AV.one = true := rfl
theorem encE_one (x : Ed) : (encE x).all AV.one = true := rfl
theorem encI_E : Enc tab 34 3 1 encI := ⟨⟨_, rfl, rfl⟩, ⟨_, rfl, rfl⟩, by decide, fun _ => rfl⟩

theorem cloneN_pc (l : List Nd) (hl : l.length < 64) (h0 : 0 < l.length) : ACalls Try.prog 44 [.ds true (l.flatMap encN) l.length false] [] (fun r σ' => r = .os true 3 0 0 0 l.length false ∧ σ' = [.cells 0 (l.flatMap encN)]) := by
  refine acalls_st (rs := [.tmp 2]) [1] tok Try.func44 rfl Try.ntmps44 rfl Try.call44 (by simp) (by first | rfl | simp) ?_
  have happ := fun nl' sz id ver off tt' nl tt σ => encN_E.app encN_one rfl (by decide) l (.os nl' sz id ver off 0 tt') (by show (0 + l.length) * 24 ≤ 140737488355328; omega) nl tt σ
  have hz : (l.length = 0) = False := eq_false (by omega)
  refine reg tok [true] fun K hK => ?_
  simp only [go_sem, Nat.reduceLT, Nat.reduceLeDiff, Nat.reduceEqDiff, Nat.reduceAdd, Nat.reduceMul, Nat.reduceSub, reduceIte, reduceCtorEq, happ, hz]
  refine hK _ _ ?_
  clear hK K
  refine awp_seq_k fun Z1 hZ1 => ?_
  refine awp_seq_k fun K hK => ?_
  refine awp_region ?_
  refine opsRunN tok 1 ?_
  simp only [go_sem, Nat.reduceLT, Nat.reduceLeDiff, Nat.reduceEqDiff, Nat.reduceAdd, Nat.reduceMul, Nat.reduceSub, reduceIte, reduceCtorEq, happ, hz]
  refine opsWp_snil tok rfl rfl rfl rfl rfl rfl fun b hnil4 => ?_
  cases b
  · skip
    clear hnil4
    refine opsWp_nil ?_
    refine hK _ _ (awp_keepM [true, false, false, false, true] ?_)
    clear hK K
    try simp only [go_sem, Nat.reduceLT, Nat.reduceLeDiff, Nat.reduceEqDiff, Nat.reduceAdd, Nat.reduceMul, Nat.reduceSub, reduceIte, reduceCtorEq]
    refine awp_cond_f rfl ?_
    refine awp_skip ?_
    refine hZ1 _ _ ?_
    refine reg tok [false, false, true] fun K hK => ?_
    simp only [go_sem, Nat.reduceLT, Nat.reduceLeDiff, Nat.reduceEqDiff, Nat.reduceAdd, Nat.reduceMul, Nat.reduceSub, reduceIte, reduceCtorEq, evBuildSlice, zeroRun, evAppendTo, lenOfAV, srcCells, happ, hz, Nat.zero_le, List.range_zero]
    refine hK _ _ ?_
    clear hK K
    refine awp_ret ?_
    simp only [retQ, resAll, resOne, resAV, exists_eq_left', go_sem, Nat.reduceLT, Nat.reduceLeDiff, Nat.reduceEqDiff, Nat.reduceAdd, Nat.reduceMul, Nat.reduceSub, reduceIte, reduceCtorEq]
    first | rfl | (simp [tell_u, tell_bool, tell_int, tell_str, tell_nilp, tell_nilm, tell_nilI, tell_nilF, tell_agg, tell_tup, tell_ifc, tell_ds, tell_dp, tell_op, tell_os, tell_mp, idxOf_nil, idxOf_cons, tellS_nil, tellS_cons, tellO_cells, tellO_map, tellO_iter, tellO_dead, store_get0, store_getS, tell_canonL, tell_canon, canonL, AV.canon, Bool.or_true, Bool.or_false, Bool.and_true, Bool.and_false, Bool.not_true, Bool.not_false, Option.some.injEq, canonL_N]; done) | (simp [tell, tell_canonL, *]; done)
  · skip
    exact absurd (hnil4 rfl) (by simp only [lenOfAV, go_sem]; omega)


/-- May a node go on? -/
def canB (ns : List Nd) (s : Int) : Bool := (decide (0 ≤ s) && decide (s ≤ (ns.length : Int) - 1)) && !decide ((ns.getD s.toNat default).t ≤ (ns.getD s.toNat default).v)

def upN (x : Nd) : Nd := { x with v := IntKind.i64.wrap (x.v + 1) }

def afterL (ns : List Nd) (s : Int) : List Nd := if canB ns s then ns.set s.toNat (upN (ns.getD s.toNat default)) else []

theorem after_pc (ns : List Nd) (s : Int) (hn : ns.length < 64) : ACalls Try.prog 38 [.ds true (ns.flatMap encN) ns.length false, .int .i64 s] [] (fun r _ => r = .tup [.ds true ((afterL ns s).flatMap encN) (afterL ns s).length false, .bool (canB ns s)]) := by
  refine acalls_pure (rs := [.tmp 4, .tmp 5]) tok Try.func38 rfl Try.ntmps38 rfl Try.call38 (by simp) ?_
  have hw : IntKind.i64.wrap ((ns.length : Int) - 1) = (ns.length : Int) - 1 := i64_in (by omega) (by omega)
  refine reg tok [true, true] fun K hK => ?_
  simp only [go_sem, Nat.reduceLT, Nat.reduceLeDiff, Nat.reduceEqDiff, Nat.reduceAdd, Nat.reduceMul, Nat.reduceSub, reduceIte, reduceCtorEq, hw]
  refine hK _ _ ?_
  clear hK K
  refine awp_seq_k fun Z1 hZ1 => ?_
  refine awp_seq_k fun K hK => ?_
  refine DW.start (T := tab) [.any, .any, .at [], .any, .eff, .any, .any, .any, .any, .any, .any, .at [], .any, .any, .any, .any, .at [], .any, .any] [] ?_
  refine DW.runN tok 4 ?_
  simp only [go_sem, Nat.reduceLT, Nat.reduceLeDiff, Nat.reduceEqDiff, Nat.reduceAdd, Nat.reduceMul, Nat.reduceSub, reduceIte, reduceCtorEq, hw]
  refine DW.call rfl rfl rfl (in_pc_ev _ _ _ _) ?_
  refine DW.runN tok 2 ?_
  simp only [go_sem, Nat.reduceLT, Nat.reduceLeDiff, Nat.reduceEqDiff, Nat.reduceAdd, Nat.reduceMul, Nat.reduceSub, reduceIte, reduceCtorEq, hw]
  refine DW.if 13 rfl (fun hg13 => ?_) (fun hg13 => ?_)
  · skip
    refine DW.runN tok 8 ?_
    simp only [go_sem, Nat.reduceLT, Nat.reduceLeDiff, Nat.reduceEqDiff, Nat.reduceAdd, Nat.reduceMul, Nat.reduceSub, reduceIte, reduceCtorEq, hw]
    refine DW.runN tok 4 ?_
    simp only [go_sem, Nat.reduceLT, Nat.reduceLeDiff, Nat.reduceEqDiff, Nat.reduceAdd, Nat.reduceMul, Nat.reduceSub, reduceIte, reduceCtorEq, hw]
    refine DW.fin tok (by decide +kernel) rfl ?_
    refine hK _ _ (awp_keepM [true, true, false, false, false, false, false, false, false, false, false, false, false, false, false, false, false, false, false, false, false, false, false, false, false, true] ?_)
    clear hK K
    try simp only [go_sem, Nat.reduceLT, Nat.reduceLeDiff, Nat.reduceEqDiff, Nat.reduceAdd, Nat.reduceMul, Nat.reduceSub, reduceIte, reduceCtorEq]
    refine awp_cond_t rfl ?_
    refine reg tok [false, false, false, false, true, true] fun K hK => ?_
    simp only [go_sem, Nat.reduceLT, Nat.reduceLeDiff, Nat.reduceEqDiff, Nat.reduceAdd, Nat.reduceMul, Nat.reduceSub, reduceIte, reduceCtorEq, hw]
    refine hK _ _ ?_
    clear hK K
    refine awp_ret ?_
    simp only [retQ, resAll, resOne, resAV, exists_eq_left', go_sem, Nat.reduceLT, Nat.reduceLeDiff, Nat.reduceEqDiff, Nat.reduceAdd, Nat.reduceMul, Nat.reduceSub, reduceIte, reduceCtorEq]
    have h : canB ns s = false := by unfold canB; rcases hg13 with h | h <;> simp [h]
    simp [tell_tup, tell_ds, tell_bool, afterL, h]
  · skip
    have g1 : ns.getD s.toNat default = ns[s.toNat]'(by omega) := by rw [List.getD_eq_getElem?_getD, List.getElem?_eq_getElem (by omega)]; rfl
    have ix1 := fun nl tt q => encN_E.idx (l := ns) (k := s) (by omega) (by omega) nl tt q
    have il0 := fun σ => encN_E.fld0 (f := 3) rfl rfl (l := ns) (i := s.toNat) (by omega) σ
    have il1 := fun σ => encN_E.fld (f := 3) rfl rfl (l := ns) (i := s.toNat) (o := 1) (by omega) (by decide) σ
    refine DW.runN tok 8 ?_
    simp only [go_sem, Nat.reduceLT, Nat.reduceLeDiff, Nat.reduceEqDiff, Nat.reduceAdd, Nat.reduceMul, Nat.reduceSub, reduceIte, reduceCtorEq, hw, ix1, il0, il1, encN]
    refine DW.runN tok 4 ?_
    simp only [go_sem, Nat.reduceLT, Nat.reduceLeDiff, Nat.reduceEqDiff, Nat.reduceAdd, Nat.reduceMul, Nat.reduceSub, reduceIte, reduceCtorEq, hw, ix1, il0, il1, encN]
    refine DW.fin tok (by decide +kernel) rfl ?_
    refine hK _ _ (awp_keepM [true, true, false, false, false, false, false, false, false, false, false, false, false, false, false, false, false, false, false, false, false, false, false, false, false, true] ?_)
    clear hK K
    try simp only [go_sem, Nat.reduceLT, Nat.reduceLeDiff, Nat.reduceEqDiff, Nat.reduceAdd, Nat.reduceMul, Nat.reduceSub, reduceIte, reduceCtorEq]
    refine awp_if rfl (fun hcc3 => ?_) (fun hcc3 => ?_)
    · skip
      refine reg tok [false, false, false, false, true, true] fun K hK => ?_
      simp only [go_sem, Nat.reduceLT, Nat.reduceLeDiff, Nat.reduceEqDiff, Nat.reduceAdd, Nat.reduceMul, Nat.reduceSub, reduceIte, reduceCtorEq, hw, ix1, il0, il1, encN]
      refine hK _ _ ?_
      clear hK K
      refine awp_ret ?_
      simp only [retQ, resAll, resOne, resAV, exists_eq_left', go_sem, Nat.reduceLT, Nat.reduceLeDiff, Nat.reduceEqDiff, Nat.reduceAdd, Nat.reduceMul, Nat.reduceSub, reduceIte, reduceCtorEq]
      have h : canB ns s = false := by unfold canB; rw [g1]; simp [hcc3]
      simp [tell_tup, tell_ds, tell_bool, afterL, h]
    · skip
      refine awp_skip ?_
      refine hZ1 _ _ ?_
      refine awp_seq_k fun K hK => ?_
      refine awp_region ?_
      refine opsRunN tok 1 ?_
      simp only [go_sem, Nat.reduceLT, Nat.reduceLeDiff, Nat.reduceEqDiff, Nat.reduceAdd, Nat.reduceMul, Nat.reduceSub, reduceIte, reduceCtorEq, hw, ix1, il0, il1, encN]
      refine opsWp_callD rfl rfl rfl (cloneN_pc ns (by omega) (by omega)) ?_
      rintro _ _ ⟨rfl, rfl⟩
      refine opsRunN tok 1 ?_
      simp only [go_sem, Nat.reduceLT, Nat.reduceLeDiff, Nat.reduceEqDiff, Nat.reduceAdd, Nat.reduceMul, Nat.reduceSub, reduceIte, reduceCtorEq, hw, ix1, il0, il1, encN]
      refine opsWp_nil ?_
      refine hK _ _ (awp_keepM [false, true, false, false, false, false, true] ?_)
      clear hK K
      try simp only [go_sem, Nat.reduceLT, Nat.reduceLeDiff, Nat.reduceEqDiff, Nat.reduceAdd, Nat.reduceMul, Nat.reduceSub, reduceIte, reduceCtorEq]
      have ixo := fun nl tt q sz id ver off => encN_E.idxo (len := ns.length) (k := s) (by omega) (by omega) nl tt q sz id ver off
      have ile : (s.toNat * 3 + 1 ≤ (ns.flatMap encN).length) = True := eq_true (by rw [enc_length encN_E.len]; omega)
      have ird := fun n => enc_rd0 (n := n) encN_E.len (l := ns) (k := s.toNat) (by omega) (by decide)
      have ist := enc_set0 (y := upN ns[s.toNat]) encN_E.len (l := ns) (k := s.toNat) (a := .int .i64 (IntKind.i64.wrap (ns[s.toNat].v + 1))) (by omega) (by decide) rfl
      refine reg tok [false, false, false, false, false, false, true] fun K hK => ?_
      simp only [go_sem, Nat.reduceLT, Nat.reduceLeDiff, Nat.reduceEqDiff, Nat.reduceAdd, Nat.reduceMul, Nat.reduceSub, reduceIte, reduceCtorEq, hw, ix1, il0, il1, encN, ixo, ird, ist, ile]
      refine hK _ _ ?_
      clear hK K
      refine reg tok [false, false, false, false, true, true] fun K hK => ?_
      simp only [go_sem, Nat.reduceLT, Nat.reduceLeDiff, Nat.reduceEqDiff, Nat.reduceAdd, Nat.reduceMul, Nat.reduceSub, reduceIte, reduceCtorEq, hw, ix1, il0, il1, encN]
      refine hK _ _ ?_
      clear hK K
      refine awp_ret ?_
      simp only [retQ, resAll, resOne, resAV, exists_eq_left', go_sem, Nat.reduceLT, Nat.reduceLeDiff, Nat.reduceEqDiff, Nat.reduceAdd, Nat.reduceMul, Nat.reduceSub, reduceIte, reduceCtorEq]
      have h : canB ns s = true := by unfold canB; rw [g1]; simp [hg13, hcc3]
      have h2 : afterL ns s = ns.set s.toNat (upN ns[s.toNat]) := by unfold afterL; rw [h, g1]; rfl
      rw [h2, tell_tup]
      simp only [List.map_cons, List.map_nil, tell_bool, h, List.length_set]
      rw [tell_enc encN_E.len (l := ns.set s.toNat (upN ns[s.toNat])) (by simp) rfl rfl (canonL_N _ _)]

theorem after_pc_ev (ns : List Nd) (s : Int) (hn : ns.length < 64) (σ : Store) : ACalls Try.prog 38 [.ds true (ns.flatMap encN) ns.length false, .int .i64 s] σ fun r σ' => r = .tup [.ds true ((afterL ns s).flatMap encN) (afterL ns s).length false, .bool (canB ns s)] ∧ σ' = σ :=
  (after_pc ns s hn).pureAt (by simp [AV.canon, canonL, canonL_N]) (by simp [AV.canon, canonL, canonL_N]) σ



/-- The versions, as the search keeps them. -/
def stateA (ns : List Nd) : List AV := ns.flatMap (fun x => encI x.v) ++ List.replicate (6 - ns.length) (.int .i64 0)

theorem stateA_len {ns : List Nd} (h : ns.length ≤ 6) : (stateA ns).length = 6 := by
  unfold stateA
  rw [List.length_append, List.length_replicate, enc_length (sz := 1) (fun _ => rfl)]; omega

theorem stateA_set {ns : List Nd} (x : Nd) (h : ns.length < 6) : (stateA ns).set ns.length (.int .i64 x.v) = stateA (ns ++ [x]) := by
  unfold stateA
  have e : (ns.flatMap (fun x => encI x.v)).length = ns.length := by rw [enc_length (sz := 1) (fun _ => rfl)]; omega
  rw [List.set_append_right _ _ (by omega), e, Nat.sub_self, List.flatMap_append, List.append_assoc]
  congr 1
  obtain ⟨k, hk⟩ : ∃ k, 6 - ns.length = k + 1 := ⟨6 - ns.length - 1, by omega⟩
  rw [hk, List.replicate_succ, List.set_cons_zero]
  have : 6 - (ns ++ [x]).length = k := by simp; omega
  rw [this]; rfl

theorem canonL_state (s : Bool) (ns : List Nd) : canonL s (stateA ns) = true := by
  unfold stateA
  have h : ∀ k, canonL s (List.replicate k (.int .i64 0)) = true := fun k => by
    induction k with
    | zero => rfl
    | succ k ih => rw [List.replicate_succ, canonL, ih]; rfl
  rw [canonL_append, canonL_flatMap s _ (fun _ => rfl), h]; rfl

theorem state_one (ns : List Nd) : (stateA ns).all AV.one = true := by
  unfold stateA
  rw [List.all_append, List.all_flatMap]
  simp [encI, AV.one]

theorem of_pc (ns : List Nd) (hn : ns.length ≤ 6) : ACalls Try.prog 45 [.ds true (ns.flatMap encN) ns.length false] [] (fun r _ => r = .agg (stateA ns)) := by
  refine acalls_pure (rs := [.cell 2 81]) tok Try.func45 rfl Try.ntmps45 rfl Try.call45 (by simp) ?_
  have hb : ns.length < 9223372036854775808 := by omega
  refine reg tok [true, false, true] fun K hK => ?_
  simp only [go_sem, Nat.reduceLT, Nat.reduceLeDiff, Nat.reduceEqDiff, Nat.reduceAdd, Nat.reduceMul, Nat.reduceSub, reduceIte, reduceCtorEq, encN]
  refine hK _ _ ?_
  clear hK K
  refine reg tok [true, false, true, true] fun K hK => ?_
  simp only [go_sem, Nat.reduceLT, Nat.reduceLeDiff, Nat.reduceEqDiff, Nat.reduceAdd, Nat.reduceMul, Nat.reduceSub, reduceIte, reduceCtorEq, encN]
  refine hK _ _ ?_
  clear hK K
  refine awp_seq_k fun Z1 hZ1 => ?_
  refine reg tok [false, false, true, true, false, false, true, true, true] fun K hK => ?_
  simp only [go_sem, Nat.reduceLT, Nat.reduceLeDiff, Nat.reduceEqDiff, Nat.reduceAdd, Nat.reduceMul, Nat.reduceSub, reduceIte, reduceCtorEq, encN]
  refine hK _ _ ?_
  clear hK K
  refine awp_block ?_
  refine awp_loopT (fun m L τ => ∃ pre post, m = post.length ∧ L = ([.u, .u, (.op 0 0 0), (.op 1 0 0), .u, .u, (.ds true (ns.flatMap encN) ns.length false), (.int .i64 ns.length), (.int .i64 pre.length)] : List AV) ∧ τ = ([.cells 0 (stateA []), .cells 0 (stateA pre)] : Store) ∧ ns = pre ++ post) _ ⟨[], ns, rfl, rfl, rfl, by simp⟩ ?_ ?_
  · exact Tells.mk' [0, 1] false 12 (by decide) (by simp) (by first | rfl | simp) (by first | rfl | simp [tell_u, tell_bool, tell_int, tell_str, tell_nilp, tell_nilm, tell_nilI, tell_nilF, tell_agg, tell_tup, tell_ifc, tell_ds, tell_dp, tell_op, tell_os, tell_mp, idxOf_nil, idxOf_cons, tellS_nil, tellS_cons, tellO_cells, tellO_map, tellO_iter, tellO_dead, store_get0, store_getS, tell_canonL, tell_canon, canonL, AV.canon, Bool.or_true, Bool.or_false, Bool.and_true, Bool.and_false, Bool.not_true, Bool.not_false, Option.some.injEq, canonL_N, canonL_state, encN]) ⟨.inl rfl, .inl rfl, .inr (by first | rfl | simp [tell_u, tell_bool, tell_int, tell_str, tell_nilp, tell_nilm, tell_nilI, tell_nilF, tell_agg, tell_tup, tell_ifc, tell_ds, tell_dp, tell_op, tell_os, tell_mp, idxOf_nil, idxOf_cons, tellS_nil, tellS_cons, tellO_cells, tellO_map, tellO_iter, tellO_dead, store_get0, store_getS, tell_canonL, tell_canon, canonL, AV.canon, Bool.or_true, Bool.or_false, Bool.and_true, Bool.and_false, Bool.not_true, Bool.not_false, Option.some.injEq]), .inr (by first | rfl | simp [tell_u, tell_bool, tell_int, tell_str, tell_nilp, tell_nilm, tell_nilI, tell_nilF, tell_agg, tell_tup, tell_ifc, tell_ds, tell_dp, tell_op, tell_os, tell_mp, idxOf_nil, idxOf_cons, tellS_nil, tellS_cons, tellO_cells, tellO_map, tellO_iter, tellO_dead, store_get0, store_getS, tell_canonL, tell_canon, canonL, AV.canon, Bool.or_true, Bool.or_false, Bool.and_true, Bool.and_false, Bool.not_true, Bool.not_false, Option.some.injEq]), .inl rfl, .inl rfl, .inr (by first | exact tell_canon _ _ _ (.ds true (ns.flatMap encN) ns.length false) 12 (by simp [AV.canon, canonL, canonL_N, canonL_state, encN]) | rfl), .inr (by first | exact tell_canon _ _ _ (.int .i64 ns.length) 12 (by simp [AV.canon, canonL, canonL_N, canonL_state, encN]) | rfl), .inr (by first | exact tell_canon _ _ _ (.int .i64 pre.length) 12 (by simp [AV.canon, canonL, canonL_N, canonL_state, encN]) | rfl), trivial⟩
  rintro m L τ ⟨pre, post, rfl, rfl, rfl, hE⟩
  rcases post with _ | ⟨x, post⟩
  · have hzf2 := z_false hE
    refine reg tok [false, false, true, true, false, false, true, true, true, true] fun K hK => ?_
    simp only [go_sem, Nat.reduceLT, Nat.reduceLeDiff, Nat.reduceEqDiff, Nat.reduceAdd, Nat.reduceMul, Nat.reduceSub, reduceIte, reduceCtorEq, encN, hzf2]
    refine hK _ _ ?_
    clear hK K
    refine awp_seq_k fun Z3 hZ3 => ?_
    refine awp_cond_f rfl ?_
    refine awp_exit ?_
    refine hZ1 _ _ ?_
    have e : pre = ns := by simpa using hE.symm
    subst e
    have q1 : (6 ≤ (stateA pre).length) = True := eq_true (by rw [stateA_len hn]; decide)
    have q2 : (6 ≤ (stateA []).length) = True := eq_true (by decide)
    have q3 : (stateA pre).length = 6 := stateA_len hn
    have q4 : List.take 6 (stateA pre) = stateA pre := List.take_of_length_le (by omega)
    have q5 : setRun (stateA []) 0 (stateA pre) = stateA pre := setRun_all (by rw [q3]; rfl)
    have q6 := state_one pre
    refine reg tok [false, false, true] fun K hK => ?_
    simp only [go_sem, Nat.reduceLT, Nat.reduceLeDiff, Nat.reduceEqDiff, Nat.reduceAdd, Nat.reduceMul, Nat.reduceSub, reduceIte, reduceCtorEq, encN, hzf2, q1, q2, q3, q4, q5, q6]
    refine hK _ _ ?_
    clear hK K
    refine awp_ret ?_
    simp only [retQ, resAll, resOne, resAV, exists_eq_left', go_sem, Nat.reduceLT, Nat.reduceLeDiff, Nat.reduceEqDiff, Nat.reduceAdd, Nat.reduceMul, Nat.reduceSub, reduceIte, reduceCtorEq, encN, q1, q4]
    first | rfl | (simp [tell_u, tell_bool, tell_int, tell_str, tell_nilp, tell_nilm, tell_nilI, tell_nilF, tell_agg, tell_tup, tell_ifc, tell_ds, tell_dp, tell_op, tell_os, tell_mp, idxOf_nil, idxOf_cons, tellS_nil, tellS_cons, tellO_cells, tellO_map, tellO_iter, tellO_dead, store_get0, store_getS, tell_canonL, tell_canon, canonL, AV.canon, Bool.or_true, Bool.or_false, Bool.and_true, Bool.and_false, Bool.not_true, Bool.not_false, Option.some.injEq, canonL_N, canonL_state, encN]; done) | (simp [tell, tell_canonL, *]; done)
  · have hzt2 := z_true hE
    have hzi2 := z_inc hE hb
    have hzx2 := fun nl tt q => encN_E.idxZ hE nl tt q
    have hzl2 := encN_E.loadZ rfl rfl hE
    refine reg tok [false, false, true, true, false, false, true, true, true, true] fun K hK => ?_
    simp only [go_sem, Nat.reduceLT, Nat.reduceLeDiff, Nat.reduceEqDiff, Nat.reduceAdd, Nat.reduceMul, Nat.reduceSub, reduceIte, reduceCtorEq, encN, hzt2, hzi2, hzx2, hzl2]
    refine hK _ _ ?_
    clear hK K
    refine awp_seq_k fun Z5 hZ5 => ?_
    refine awp_cond_t rfl ?_
    refine awp_skip ?_
    refine hZ5 _ _ ?_
    refine awp_seq_k fun Z7 hZ7 => ?_
    refine awp_block ?_
    refine reg tok [false, false, true, true, true, true, true, true, true] fun K hK => ?_
    simp only [go_sem, Nat.reduceLT, Nat.reduceLeDiff, Nat.reduceEqDiff, Nat.reduceAdd, Nat.reduceMul, Nat.reduceSub, reduceIte, reduceCtorEq, encN, hzt2, hzi2, hzx2, hzl2]
    refine hK _ _ ?_
    clear hK K
    have h6 : pre.length < 6 := by have := z_lt hE; omega
    have ia := fun id ver off q => arr_idx (T := tab) (t := 81) (sz := 1) (k := (pre.length : Int)) rfl rfl rfl rfl (by omega) (by omega) id ver off q
    have il : (pre.length + 1 ≤ (stateA pre).length) = True := eq_true (by rw [stateA_len (by omega)]; omega)
    refine regEnd tok ?_
    simp only [go_sem, Nat.reduceLT, Nat.reduceLeDiff, Nat.reduceEqDiff, Nat.reduceAdd, Nat.reduceMul, Nat.reduceSub, reduceIte, reduceCtorEq, encN, hzt2, hzi2, hzx2, hzl2, ia, il, Int.toNat_natCast, Nat.mul_one, stateA_set x h6]
    refine hZ7 _ _ ?_
    refine regEnd tok ?_
    simp only [go_sem, Nat.reduceLT, Nat.reduceLeDiff, Nat.reduceEqDiff, Nat.reduceAdd, Nat.reduceMul, Nat.reduceSub, reduceIte, reduceCtorEq, encN, hzt2, hzi2, hzx2, hzl2]
    refine ⟨_, _, _, ?_, ⟨pre ++ [x], post, rfl, rfl, rfl, ?_⟩, ?_⟩
    · simp
    · first | (simp; done) | (simpa using hE)
    · exact Tells.mk' [0, 1] false 12 (by decide) (by simp) (by first | rfl | simp) (by first | rfl | simp [tell_u, tell_bool, tell_int, tell_str, tell_nilp, tell_nilm, tell_nilI, tell_nilF, tell_agg, tell_tup, tell_ifc, tell_ds, tell_dp, tell_op, tell_os, tell_mp, idxOf_nil, idxOf_cons, tellS_nil, tellS_cons, tellO_cells, tellO_map, tellO_iter, tellO_dead, store_get0, store_getS, tell_canonL, tell_canon, canonL, AV.canon, Bool.or_true, Bool.or_false, Bool.and_true, Bool.and_false, Bool.not_true, Bool.not_false, Option.some.injEq, canonL_N, canonL_state, encN]) ⟨.inl rfl, .inl rfl, .inr (by first | rfl | simp [tell_u, tell_bool, tell_int, tell_str, tell_nilp, tell_nilm, tell_nilI, tell_nilF, tell_agg, tell_tup, tell_ifc, tell_ds, tell_dp, tell_op, tell_os, tell_mp, idxOf_nil, idxOf_cons, tellS_nil, tellS_cons, tellO_cells, tellO_map, tellO_iter, tellO_dead, store_get0, store_getS, tell_canonL, tell_canon, canonL, AV.canon, Bool.or_true, Bool.or_false, Bool.and_true, Bool.and_false, Bool.not_true, Bool.not_false, Option.some.injEq]), .inr (by first | rfl | simp [tell_u, tell_bool, tell_int, tell_str, tell_nilp, tell_nilm, tell_nilI, tell_nilF, tell_agg, tell_tup, tell_ifc, tell_ds, tell_dp, tell_op, tell_os, tell_mp, idxOf_nil, idxOf_cons, tellS_nil, tellS_cons, tellO_cells, tellO_map, tellO_iter, tellO_dead, store_get0, store_getS, tell_canonL, tell_canon, canonL, AV.canon, Bool.or_true, Bool.or_false, Bool.and_true, Bool.and_false, Bool.not_true, Bool.not_false, Option.some.injEq]), .inl rfl, .inl rfl, .inr (by first | exact tell_canon _ _ _ (.ds true (ns.flatMap encN) ns.length false) 12 (by simp [AV.canon, canonL, canonL_N, canonL_state, encN]) | rfl), .inr (by first | exact tell_canon _ _ _ (.int .i64 ns.length) 12 (by simp [AV.canon, canonL, canonL_N, canonL_state, encN]) | rfl), .inr (by first | exact tell_canon _ _ _ (.int .i64 pre.length) 12 (by simp [AV.canon, canonL, canonL_N, canonL_state, encN]) | rfl), trivial⟩

theorem of_pc_ev (ns : List Nd) (hn : ns.length ≤ 6) (σ : Store) : ACalls Try.prog 45 [.ds true (ns.flatMap encN) ns.length false] σ fun r σ' => r = .agg (stateA ns) ∧ σ' = σ :=
  (of_pc ns hn).pureAt (by simp [AV.canon, canonL, canonL_N, canonL_state, encN]) (by simp [AV.canon, canonL, canonL_N, canonL_state, encN]) σ


end Go.Proofs.Ytplddidoobjcnaa
