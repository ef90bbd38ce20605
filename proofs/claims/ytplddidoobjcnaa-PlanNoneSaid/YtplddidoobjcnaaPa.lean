/- The planner's functions: what they compute. -/
import Derived.Test.YtplddidoobjcnaaT
import Derived.Test.YtplddidoobjcnaaBv
set_option maxRecDepth 4000
set_option linter.unusedSimpArgs false
set_option linter.unusedVariables false
set_option linter.constructorNameAsVariable false
namespace Go.Proofs.Ytplddidoobjcnaa
open AM

/-- A node of a fleet. -/
structure Nd where
  v : Int
  t : Int
  b : Int
  deriving DecidableEq, Inhabited

/-- Who calls whom. -/
structure Ed where
  f : Int
  t : Int
  deriving DecidableEq, Inhabited

def encN (x : Nd) : List AV := [.int .i64 x.v, .int .i64 x.t, .int .i64 x.b]
def encE (x : Ed) : List AV := [.int .i64 x.f, .int .i64 x.t]

theorem encN_E : Enc tab 48 58 3 encN := ⟨⟨_, rfl, rfl⟩, ⟨_, rfl, rfl⟩, by decide, fun _ => rfl⟩
theorem encE_E : Enc tab 49 55 2 encE := ⟨⟨_, rfl, rfl⟩, ⟨_, rfl, rfl⟩, by decide, fun _ => rfl⟩
theorem canonL_N (s : Bool) (l : List Nd) : canonL s (l.flatMap encN) = true := canonL_flatMap s _ (fun _ => rfl) l
theorem canonL_E (s : Bool) (l : List Ed) : canonL s (l.flatMap encE) = true := canonL_flatMap s _ (fun _ => rfl) l

theorem in_pc (v a b : Int)  : ACalls Try.prog 42 [.int .i64 v, .int .i64 a, .int .i64 b] [] (fun r _ => r = .bool (decide (a ≤ v) && decide (v ≤ b))) := by
  refine acalls_pure (rs := [.tmp 6]) tok Try.func42 rfl Try.ntmps42 rfl Try.call42 (by simp) ?_
  refine reg tok [true, true, true] fun K hK => ?_
  simp only [go_sem, Nat.reduceLT, Nat.reduceLeDiff, Nat.reduceEqDiff, Nat.reduceAdd, Nat.reduceMul, Nat.reduceSub, reduceIte, reduceCtorEq]
  refine hK _ _ ?_
  clear hK K
  refine awp_seq_k fun K hK => ?_
  refine awp_region ?_
  refine opsRunN tok 4 ?_
  simp only [go_sem, Nat.reduceLT, Nat.reduceLeDiff, Nat.reduceEqDiff, Nat.reduceAdd, Nat.reduceMul, Nat.reduceSub, reduceIte, reduceCtorEq]
  refine ops_if 10 rfl (fun hg10 => ?_) (fun hg10 => ?_)
  · skip
    refine opsRunN tok 5 ?_
    simp only [go_sem, Nat.reduceLT, Nat.reduceLeDiff, Nat.reduceEqDiff, Nat.reduceAdd, Nat.reduceMul, Nat.reduceSub, reduceIte, reduceCtorEq]
    refine opsWp_nil ?_
    refine hK _ _ (awp_keepM [false, false, false, false, false, false, true] ?_)
    clear hK K
    try simp only [go_sem, Nat.reduceLT, Nat.reduceLeDiff, Nat.reduceEqDiff, Nat.reduceAdd, Nat.reduceMul, Nat.reduceSub, reduceIte, reduceCtorEq]
    refine awp_ret ?_
    simp only [retQ, resAll, resOne, resAV, exists_eq_left', go_sem, Nat.reduceLT, Nat.reduceLeDiff, Nat.reduceEqDiff, Nat.reduceAdd, Nat.reduceMul, Nat.reduceSub, reduceIte, reduceCtorEq]
    first | rfl | (simp [tell_u, tell_bool, tell_int, tell_str, tell_nilp, tell_nilm, tell_nilI, tell_nilF, tell_agg, tell_tup, tell_ifc, tell_ds, tell_dp, tell_op, tell_os, tell_mp, idxOf_nil, idxOf_cons, tellS_nil, tellS_cons, tellO_cells, tellO_map, tellO_iter, tellO_dead, store_get0, store_getS, tell_canonL, tell_canon, canonL, AV.canon, Bool.or_true, Bool.or_false, Bool.and_true, Bool.and_false, Bool.not_true, Bool.not_false, Option.some.injEq]; done) | (simp [tell, tell_canonL, *]; done)
  · skip
    refine opsRunN tok 5 ?_
    simp only [go_sem, Nat.reduceLT, Nat.reduceLeDiff, Nat.reduceEqDiff, Nat.reduceAdd, Nat.reduceMul, Nat.reduceSub, reduceIte, reduceCtorEq]
    refine opsWp_nil ?_
    refine hK _ _ (awp_keepM [false, false, false, false, false, false, true] ?_)
    clear hK K
    try simp only [go_sem, Nat.reduceLT, Nat.reduceLeDiff, Nat.reduceEqDiff, Nat.reduceAdd, Nat.reduceMul, Nat.reduceSub, reduceIte, reduceCtorEq]
    refine awp_ret ?_
    simp only [retQ, resAll, resOne, resAV, exists_eq_left', go_sem, Nat.reduceLT, Nat.reduceLeDiff, Nat.reduceEqDiff, Nat.reduceAdd, Nat.reduceMul, Nat.reduceSub, reduceIte, reduceCtorEq]
    first | rfl | (simp [tell_u, tell_bool, tell_int, tell_str, tell_nilp, tell_nilm, tell_nilI, tell_nilF, tell_agg, tell_tup, tell_ifc, tell_ds, tell_dp, tell_op, tell_os, tell_mp, idxOf_nil, idxOf_cons, tellS_nil, tellS_cons, tellO_cells, tellO_map, tellO_iter, tellO_dead, store_get0, store_getS, tell_canonL, tell_canon, canonL, AV.canon, Bool.or_true, Bool.or_false, Bool.and_true, Bool.and_false, Bool.not_true, Bool.not_false, Option.some.injEq]; done) | (simp [tell, tell_canonL, *]; done)

theorem in_pc_ev (v a b : Int)  (σ : Store) : ACalls Try.prog 42 [.int .i64 v, .int .i64 a, .int .i64 b] σ fun r σ' => r = .bool (decide (a ≤ v) && decide (v ≤ b)) ∧ σ' = σ :=
  (in_pc v a b).pureAt (by simp [AV.canon, canonL]) (by simp [AV.canon, canonL]) σ


/-- The least version that a node has; false: it has none. -/
def leastS (x : Nd) : Int × Bool := if x.v ≤ x.b then (1, decide (1 ≤ x.v)) else (IntKind.i64.wrap (x.v - x.b), decide (0 ≤ x.b))

theorem least_pc (x : Nd)  : ACalls Try.prog 43 [.agg (encN x)] [] (fun r _ => r = .tup [.int .i64 (leastS x).1, .bool (leastS x).2]) := by
  refine acalls_pure (rs := [.tmp 2, .tmp 3]) tok Try.func43 rfl Try.ntmps43 rfl Try.call43 (by simp) ?_
  refine reg tok [false, true] fun K hK => ?_
  simp only [go_sem, Nat.reduceLT, Nat.reduceLeDiff, Nat.reduceEqDiff, Nat.reduceAdd, Nat.reduceMul, Nat.reduceSub, reduceIte, reduceCtorEq, encN]
  refine hK _ _ ?_
  clear hK K
  refine awp_seq_k fun Z1 hZ1 => ?_
  refine reg tok [false, true, false, false, false, false, false, false, true] fun K hK => ?_
  simp only [go_sem, Nat.reduceLT, Nat.reduceLeDiff, Nat.reduceEqDiff, Nat.reduceAdd, Nat.reduceMul, Nat.reduceSub, reduceIte, reduceCtorEq, encN]
  refine hK _ _ ?_
  clear hK K
  refine awp_if rfl (fun hcc2 => ?_) (fun hcc2 => ?_)
  · skip
    refine awp_seq_k fun K hK => ?_
    refine DW.start (T := tab) [.any, .at [], .any, .any, .any] [] ?_
    refine DW.runN tok 5 ?_
    simp only [go_sem, Nat.reduceLT, Nat.reduceLeDiff, Nat.reduceEqDiff, Nat.reduceAdd, Nat.reduceMul, Nat.reduceSub, reduceIte, reduceCtorEq, encN]
    refine DW.fin tok (by decide +kernel) rfl ?_
    refine hK _ _ (awp_keepM [false, false, true, true] ?_)
    clear hK K
    try simp only [go_sem, Nat.reduceLT, Nat.reduceLeDiff, Nat.reduceEqDiff, Nat.reduceAdd, Nat.reduceMul, Nat.reduceSub, reduceIte, reduceCtorEq]
    refine awp_ret ?_
    simp only [retQ, resAll, resOne, resAV, exists_eq_left', go_sem, Nat.reduceLT, Nat.reduceLeDiff, Nat.reduceEqDiff, Nat.reduceAdd, Nat.reduceMul, Nat.reduceSub, reduceIte, reduceCtorEq, encN]
    simp [tell, leastS, *]
  · skip
    refine awp_skip ?_
    refine hZ1 _ _ ?_
    refine awp_seq_k fun K hK => ?_
    refine DW.start (T := tab) [.any, .at [], .any, .at [], .any, .any, .at [], .any, .any, .any] [] ?_
    refine DW.runN tok 8 ?_
    simp only [go_sem, Nat.reduceLT, Nat.reduceLeDiff, Nat.reduceEqDiff, Nat.reduceAdd, Nat.reduceMul, Nat.reduceSub, reduceIte, reduceCtorEq, encN]
    refine DW.runN tok 2 ?_
    simp only [go_sem, Nat.reduceLT, Nat.reduceLeDiff, Nat.reduceEqDiff, Nat.reduceAdd, Nat.reduceMul, Nat.reduceSub, reduceIte, reduceCtorEq, encN]
    refine DW.fin tok (by decide +kernel) rfl ?_
    refine hK _ _ (awp_keepM [false, false, true, true] ?_)
    clear hK K
    try simp only [go_sem, Nat.reduceLT, Nat.reduceLeDiff, Nat.reduceEqDiff, Nat.reduceAdd, Nat.reduceMul, Nat.reduceSub, reduceIte, reduceCtorEq]
    refine awp_ret ?_
    simp only [retQ, resAll, resOne, resAV, exists_eq_left', go_sem, Nat.reduceLT, Nat.reduceLeDiff, Nat.reduceEqDiff, Nat.reduceAdd, Nat.reduceMul, Nat.reduceSub, reduceIte, reduceCtorEq, encN]
    simp [tell, leastS, *]

theorem least_pc_ev (x : Nd)  (σ : Store) : ACalls Try.prog 43 [.agg (encN x)] σ fun r σ' => r = .tup [.int .i64 (leastS x).1, .bool (leastS x).2] ∧ σ' = σ :=
  (least_pc x).pureAt (by simp [AV.canon, canonL, encN]) (by simp [AV.canon, canonL, encN]) σ


def min2 (a b : Int) : Int := if b < a then b else a
def max2 (a b : Int) : Int := if a < b then b else a

/-- Have the ends of an edge a version in common? -/
def fitS (a b : Nd) : Bool := (leastS a).2 && ((leastS b).2 && decide (¬ min2 a.v b.v < max2 (leastS a).1 (leastS b).1))

def okE (ns : List Nd) (e : Ed) : Bool := (decide (0 ≤ e.f) && decide (e.f ≤ (ns.length : Int) - 1)) && (decide (0 ≤ e.t) && decide (e.t ≤ (ns.length : Int) - 1))

def rightS (ns : List Nd) : List Ed → Bool
  | [] => true
  | e :: l => okE ns e && (fitS (ns.getD e.f.toNat default) (ns.getD e.t.toNat default) && rightS ns l)

theorem right_pc (ns : List Nd) (es : List Ed) (hn : ns.length < 9223372036854775808) (he : es.length < 9223372036854775808) : ACalls Try.prog 37 [.ds true (ns.flatMap encN) ns.length false, .ds true (es.flatMap encE) es.length false] [] (fun r _ => r = .bool (rightS ns es)) := by
  refine acalls_pure (rs := [.tmp 4]) tok Try.func37 rfl Try.ntmps37 rfl Try.call37 (by simp) ?_
  have hw : IntKind.i64.wrap ((ns.length : Int) - 1) = (ns.length : Int) - 1 := i64_in (by omega) (by omega)
  refine reg tok [true, true] fun K hK => ?_
  simp only [go_sem, Nat.reduceLT, Nat.reduceLeDiff, Nat.reduceEqDiff, Nat.reduceAdd, Nat.reduceMul, Nat.reduceSub, reduceIte, reduceCtorEq, encE, hw]
  refine hK _ _ ?_
  clear hK K
  refine awp_seq_k fun Z1 hZ1 => ?_
  refine reg tok [true, false, false, false, false, false, false, false, false, false, false, false, false, true, true, true] fun K hK => ?_
  simp only [go_sem, Nat.reduceLT, Nat.reduceLeDiff, Nat.reduceEqDiff, Nat.reduceAdd, Nat.reduceMul, Nat.reduceSub, reduceIte, reduceCtorEq, encE, hw]
  refine hK _ _ ?_
  clear hK K
  refine awp_block ?_
  refine awp_loopT (fun m L τ => ∃ pre post, m = post.length ∧ L = ([(.ds true (ns.flatMap encN) ns.length false), .u, .u, .u, .u, .u, .u, .u, .u, .u, .u, .u, .u, (.ds true (es.flatMap encE) es.length false), (.int .i64 es.length), (.int .i64 pre.length)] : List AV) ∧ τ = ([] : Store) ∧ es = pre ++ post ∧ rightS ns es = rightS ns post) _ ⟨[], es, rfl, rfl, rfl, by simp⟩ ?_ ?_
  · exact Tells.mk' [] false 12 (by decide) (by simp) (by first | rfl | simp) (by first | rfl | simp [tell_u, tell_bool, tell_int, tell_str, tell_nilp, tell_nilm, tell_nilI, tell_nilF, tell_agg, tell_tup, tell_ifc, tell_ds, tell_dp, tell_op, tell_os, tell_mp, idxOf_nil, idxOf_cons, tellS_nil, tellS_cons, tellO_cells, tellO_map, tellO_iter, tellO_dead, store_get0, store_getS, tell_canonL, tell_canon, canonL, AV.canon, Bool.or_true, Bool.or_false, Bool.and_true, Bool.and_false, Bool.not_true, Bool.not_false, Option.some.injEq, canonL_N, canonL_E, encE]) ⟨.inr (by first | exact tell_canon _ _ _ (.ds true (ns.flatMap encN) ns.length false) 12 (by simp [AV.canon, canonL, canonL_N, canonL_E, encE]) | rfl), .inl rfl, .inl rfl, .inl rfl, .inl rfl, .inl rfl, .inl rfl, .inl rfl, .inl rfl, .inl rfl, .inl rfl, .inl rfl, .inl rfl, .inr (by first | exact tell_canon _ _ _ (.ds true (es.flatMap encE) es.length false) 12 (by simp [AV.canon, canonL, canonL_N, canonL_E, encE]) | rfl), .inr (by first | exact tell_canon _ _ _ (.int .i64 es.length) 12 (by simp [AV.canon, canonL, canonL_N, canonL_E, encE]) | rfl), .inr (by first | exact tell_canon _ _ _ (.int .i64 pre.length) 12 (by simp [AV.canon, canonL, canonL_N, canonL_E, encE]) | rfl), trivial⟩
  rintro m L τ ⟨pre, post, rfl, rfl, rfl, hE, hI⟩
  rcases post with _ | ⟨e, post⟩
  · have hzf2 := z_false hE
    refine reg tok [true, false, false, false, false, false, false, false, false, false, false, false, false, true, true, true, true] fun K hK => ?_
    simp only [go_sem, Nat.reduceLT, Nat.reduceLeDiff, Nat.reduceEqDiff, Nat.reduceAdd, Nat.reduceMul, Nat.reduceSub, reduceIte, reduceCtorEq, encE, hw, hzf2]
    refine hK _ _ ?_
    clear hK K
    refine awp_seq_k fun Z3 hZ3 => ?_
    refine awp_cond_f rfl ?_
    refine awp_exit ?_
    refine hZ1 _ _ ?_
    refine reg tok [false, false, false, false, true] fun K hK => ?_
    simp only [go_sem, Nat.reduceLT, Nat.reduceLeDiff, Nat.reduceEqDiff, Nat.reduceAdd, Nat.reduceMul, Nat.reduceSub, reduceIte, reduceCtorEq, encE, hw, hzf2]
    refine hK _ _ ?_
    clear hK K
    refine awp_ret ?_
    simp only [retQ, resAll, resOne, resAV, exists_eq_left', go_sem, Nat.reduceLT, Nat.reduceLeDiff, Nat.reduceEqDiff, Nat.reduceAdd, Nat.reduceMul, Nat.reduceSub, reduceIte, reduceCtorEq, encE]
    simp [tell, hI, rightS]
  · have hzt2 := z_true hE
    have hzi2 := z_inc hE he
    have hzx2 := fun nl tt q => encE_E.idxZ hE nl tt q
    have hzl2 := encE_E.loadZ rfl rfl hE
    refine reg tok [true, false, false, false, false, false, false, false, false, false, false, false, false, true, true, true, true] fun K hK => ?_
    simp only [go_sem, Nat.reduceLT, Nat.reduceLeDiff, Nat.reduceEqDiff, Nat.reduceAdd, Nat.reduceMul, Nat.reduceSub, reduceIte, reduceCtorEq, encE, hw, hzt2, hzi2, hzx2, hzl2]
    refine hK _ _ ?_
    clear hK K
    refine awp_seq_k fun Z5 hZ5 => ?_
    refine awp_cond_t rfl ?_
    refine awp_skip ?_
    refine hZ5 _ _ ?_
    refine awp_seq_k fun Z7 hZ7 => ?_
    refine awp_block ?_
    refine reg tok [true, false, false, false, false, false, true, false, false, false, false, false, false, true, true, true] fun K hK => ?_
    simp only [go_sem, Nat.reduceLT, Nat.reduceLeDiff, Nat.reduceEqDiff, Nat.reduceAdd, Nat.reduceMul, Nat.reduceSub, reduceIte, reduceCtorEq, encE, hw, hzt2, hzi2, hzx2, hzl2]
    refine hK _ _ ?_
    clear hK K
    refine awp_seq_k fun Z8 hZ8 => ?_
    refine awp_seq_k fun K hK => ?_
    refine awp_region ?_
    refine opsRunN tok 5 ?_
    simp only [go_sem, Nat.reduceLT, Nat.reduceLeDiff, Nat.reduceEqDiff, Nat.reduceAdd, Nat.reduceMul, Nat.reduceSub, reduceIte, reduceCtorEq, encE, hw, hzt2, hzi2, hzx2, hzl2]
    refine opsWp_callD rfl rfl rfl (in_pc_ev _ _ _ _) ?_
    rintro _ _ ⟨rfl, rfl⟩
    refine opsRunN tok 2 ?_
    simp only [go_sem, Nat.reduceLT, Nat.reduceLeDiff, Nat.reduceEqDiff, Nat.reduceAdd, Nat.reduceMul, Nat.reduceSub, reduceIte, reduceCtorEq, encE, hw, hzt2, hzi2, hzx2, hzl2]
    refine ops_if 26 rfl (fun hg26 => ?_) (fun hg26 => ?_)
    · skip
      refine opsRunN tok 8 ?_
      simp only [go_sem, Nat.reduceLT, Nat.reduceLeDiff, Nat.reduceEqDiff, Nat.reduceAdd, Nat.reduceMul, Nat.reduceSub, reduceIte, reduceCtorEq, encE, hw, hzt2, hzi2, hzx2, hzl2]
      refine opsWp_nil ?_
      refine hK _ _ (awp_keepM [true, false, false, false, false, false, true, false, false, false, false, false, false, true, true, true, false, false, false, false, false, false, false, false, false, false, false, false, false, false, false, false, false, false, true] ?_)
      clear hK K
      try simp only [go_sem, Nat.reduceLT, Nat.reduceLeDiff, Nat.reduceEqDiff, Nat.reduceAdd, Nat.reduceMul, Nat.reduceSub, reduceIte, reduceCtorEq]
      refine awp_cond_t rfl ?_
      refine reg tok [false, false, false, false, true] fun K hK => ?_
      simp only [go_sem, Nat.reduceLT, Nat.reduceLeDiff, Nat.reduceEqDiff, Nat.reduceAdd, Nat.reduceMul, Nat.reduceSub, reduceIte, reduceCtorEq, encE, hw, hzt2, hzi2, hzx2, hzl2]
      refine hK _ _ ?_
      clear hK K
      refine awp_ret ?_
      simp only [retQ, resAll, resOne, resAV, exists_eq_left', go_sem, Nat.reduceLT, Nat.reduceLeDiff, Nat.reduceEqDiff, Nat.reduceAdd, Nat.reduceMul, Nat.reduceSub, reduceIte, reduceCtorEq, encE]
      have h1 : okE ns e = false := by unfold okE; rcases hg26 with h | h <;> simp [h]
      simp only [tell, hI, rightS, h1, Bool.false_and]
    · skip
      refine opsRunN tok 5 ?_
      simp only [go_sem, Nat.reduceLT, Nat.reduceLeDiff, Nat.reduceEqDiff, Nat.reduceAdd, Nat.reduceMul, Nat.reduceSub, reduceIte, reduceCtorEq, encE, hw, hzt2, hzi2, hzx2, hzl2]
      refine opsWp_callD rfl rfl rfl (in_pc_ev _ _ _ _) ?_
      rintro _ _ ⟨rfl, rfl⟩
      refine opsRunN tok 2 ?_
      simp only [go_sem, Nat.reduceLT, Nat.reduceLeDiff, Nat.reduceEqDiff, Nat.reduceAdd, Nat.reduceMul, Nat.reduceSub, reduceIte, reduceCtorEq, encE, hw, hzt2, hzi2, hzx2, hzl2]
      refine opsWp_nil ?_
      refine hK _ _ (awp_keepM [true, false, false, false, false, false, true, false, false, false, false, false, false, true, true, true, false, false, false, false, false, false, false, false, false, false, false, false, false, false, false, false, false, false, true] ?_)
      clear hK K
      try simp only [go_sem, Nat.reduceLT, Nat.reduceLeDiff, Nat.reduceEqDiff, Nat.reduceAdd, Nat.reduceMul, Nat.reduceSub, reduceIte, reduceCtorEq]
      refine awp_if rfl (fun hcc10 => ?_) (fun hcc10 => ?_)
      · skip
        refine reg tok [false, false, false, false, true] fun K hK => ?_
        simp only [go_sem, Nat.reduceLT, Nat.reduceLeDiff, Nat.reduceEqDiff, Nat.reduceAdd, Nat.reduceMul, Nat.reduceSub, reduceIte, reduceCtorEq, encE, hw, hzt2, hzi2, hzx2, hzl2]
        refine hK _ _ ?_
        clear hK K
        refine awp_ret ?_
        simp only [retQ, resAll, resOne, resAV, exists_eq_left', go_sem, Nat.reduceLT, Nat.reduceLeDiff, Nat.reduceEqDiff, Nat.reduceAdd, Nat.reduceMul, Nat.reduceSub, reduceIte, reduceCtorEq, encE]
        have h1 : okE ns e = false := by unfold okE; rcases hcc10 with h | h <;> simp [h]
        simp only [tell, hI, rightS, h1, Bool.false_and]
      · skip
        refine awp_skip ?_
        refine hZ8 _ _ ?_
        have g1 : ns.getD e.f.toNat default = ns[e.f.toNat]'(by omega) := by rw [List.getD_eq_getElem?_getD, List.getElem?_eq_getElem (by omega)]; rfl
        have g2 : ns.getD e.t.toNat default = ns[e.t.toNat]'(by omega) := by rw [List.getD_eq_getElem?_getD, List.getElem?_eq_getElem (by omega)]; rfl
        have ix1 := fun nl tt q => encN_E.idx (l := ns) (k := e.f) (by omega) (by omega) nl tt q
        have ix2 := fun nl tt q => encN_E.idx (l := ns) (k := e.t) (by omega) (by omega) nl tt q
        have il1 := fun σ => encN_E.load rfl rfl (l := ns) (i := e.f.toNat) (by omega) σ
        have il2 := fun σ => encN_E.load rfl rfl (l := ns) (i := e.t.toNat) (by omega) σ
        refine awp_seq_k fun K hK => ?_
        refine DW.start (T := tab) [.any, .any, .own, .any, .own, .any, .any, .own, .any, .own, .eff, .flt, .eff, .eff] [] ?_
        refine DW.runN tok 8 ?_
        simp only [go_sem, Nat.reduceLT, Nat.reduceLeDiff, Nat.reduceEqDiff, Nat.reduceAdd, Nat.reduceMul, Nat.reduceSub, reduceIte, reduceCtorEq, encE, hw, hzt2, hzi2, hzx2, hzl2, ix1, il1, ix2, il2, encN]
        refine DW.runN tok 6 ?_
        simp only [go_sem, Nat.reduceLT, Nat.reduceLeDiff, Nat.reduceEqDiff, Nat.reduceAdd, Nat.reduceMul, Nat.reduceSub, reduceIte, reduceCtorEq, encE, hw, hzt2, hzi2, hzx2, hzl2, ix1, il1, ix2, il2, encN]
        refine DW.fin tok (by decide +kernel) rfl ?_
        refine hK _ _ (awp_keepM [true, false, false, false, false, false, false, true, true, false, false, false, false, true, true, true] ?_)
        clear hK K
        try simp only [go_sem, Nat.reduceLT, Nat.reduceLeDiff, Nat.reduceEqDiff, Nat.reduceAdd, Nat.reduceMul, Nat.reduceSub, reduceIte, reduceCtorEq]
        refine awp_seq_k fun K hK => ?_
        refine awp_region ?_
        refine opsRunN tok 1 ?_
        simp only [go_sem, Nat.reduceLT, Nat.reduceLeDiff, Nat.reduceEqDiff, Nat.reduceAdd, Nat.reduceMul, Nat.reduceSub, reduceIte, reduceCtorEq, encE, hw, hzt2, hzi2, hzx2, hzl2]
        refine opsWp_callD rfl rfl rfl (least_pc_ev _ _) ?_
        rintro _ _ ⟨rfl, rfl⟩
        refine opsRunN tok 5 ?_
        simp only [go_sem, Nat.reduceLT, Nat.reduceLeDiff, Nat.reduceEqDiff, Nat.reduceAdd, Nat.reduceMul, Nat.reduceSub, reduceIte, reduceCtorEq, encE, hw, hzt2, hzi2, hzx2, hzl2]
        refine opsWp_nil ?_
        refine hK _ _ (awp_keepM [true, false, false, false, false, false, false, true, true, true, true, false, false, true, true, true] ?_)
        clear hK K
        try simp only [go_sem, Nat.reduceLT, Nat.reduceLeDiff, Nat.reduceEqDiff, Nat.reduceAdd, Nat.reduceMul, Nat.reduceSub, reduceIte, reduceCtorEq]
        refine awp_seq_k fun K hK => ?_
        refine awp_region ?_
        refine opsRunN tok 1 ?_
        simp only [go_sem, Nat.reduceLT, Nat.reduceLeDiff, Nat.reduceEqDiff, Nat.reduceAdd, Nat.reduceMul, Nat.reduceSub, reduceIte, reduceCtorEq, encE, hw, hzt2, hzi2, hzx2, hzl2]
        refine opsWp_callD rfl rfl rfl (least_pc_ev _ _) ?_
        rintro _ _ ⟨rfl, rfl⟩
        refine opsRunN tok 5 ?_
        simp only [go_sem, Nat.reduceLT, Nat.reduceLeDiff, Nat.reduceEqDiff, Nat.reduceAdd, Nat.reduceMul, Nat.reduceSub, reduceIte, reduceCtorEq, encE, hw, hzt2, hzi2, hzx2, hzl2]
        refine opsWp_nil ?_
        refine hK _ _ (awp_keepM [true, false, false, false, false, false, false, true, true, true, true, true, true, true, true, true] ?_)
        clear hK K
        try simp only [go_sem, Nat.reduceLT, Nat.reduceLeDiff, Nat.reduceEqDiff, Nat.reduceAdd, Nat.reduceMul, Nat.reduceSub, reduceIte, reduceCtorEq]
        refine awp_seq_k fun K hK => ?_
        refine awp_region ?_
        refine opsRunN tok 3 ?_
        simp only [go_sem, Nat.reduceLT, Nat.reduceLeDiff, Nat.reduceEqDiff, Nat.reduceAdd, Nat.reduceMul, Nat.reduceSub, reduceIte, reduceCtorEq, encE, hw, hzt2, hzi2, hzx2, hzl2]
        refine ops_if 57 rfl (fun hg57 => ?_) (fun hg57 => ?_)
        · skip
          refine opsRunN tok 8 ?_
          simp only [go_sem, Nat.reduceLT, Nat.reduceLeDiff, Nat.reduceEqDiff, Nat.reduceAdd, Nat.reduceMul, Nat.reduceSub, reduceIte, reduceCtorEq, encE, hw, hzt2, hzi2, hzx2, hzl2]
          refine opsRunN tok 6 ?_
          simp only [go_sem, Nat.reduceLT, Nat.reduceLeDiff, Nat.reduceEqDiff, Nat.reduceAdd, Nat.reduceMul, Nat.reduceSub, reduceIte, reduceCtorEq, encE, hw, hzt2, hzi2, hzx2, hzl2]
          refine opsWp_nil ?_
          refine hK _ _ (awp_keepM [true, false, false, false, false, false, false, false, false, false, false, false, false, true, true, true, false, false, false, false, false, false, false, false, false, false, false, false, false, false, false, false, false, false, false, false, false, false, false, false, false, false, false, false, false, false, false, false, false, false, false, false, false, false, false, false, false, false, false, false, false, false, false, false, false, false, false, false, false, false, false, true] ?_)
          clear hK K
          try simp only [go_sem, Nat.reduceLT, Nat.reduceLeDiff, Nat.reduceEqDiff, Nat.reduceAdd, Nat.reduceMul, Nat.reduceSub, reduceIte, reduceCtorEq]
          refine awp_cond_t rfl ?_
          refine reg tok [false, false, false, false, true] fun K hK => ?_
          simp only [go_sem, Nat.reduceLT, Nat.reduceLeDiff, Nat.reduceEqDiff, Nat.reduceAdd, Nat.reduceMul, Nat.reduceSub, reduceIte, reduceCtorEq, encE, hw, hzt2, hzi2, hzx2, hzl2]
          refine hK _ _ ?_
          clear hK K
          refine awp_ret ?_
          simp only [retQ, resAll, resOne, resAV, exists_eq_left', go_sem, Nat.reduceLT, Nat.reduceLeDiff, Nat.reduceEqDiff, Nat.reduceAdd, Nat.reduceMul, Nat.reduceSub, reduceIte, reduceCtorEq, encE]
          have h2 : fitS (ns.getD e.f.toNat default) (ns.getD e.t.toNat default) = false := by rw [g1, g2]; unfold fitS; rw [hg57]; rfl
          simp only [tell, hI, rightS, h2, Bool.false_and, Bool.and_false]
        · skip
          refine opsRunN tok 4 ?_
          simp only [go_sem, Nat.reduceLT, Nat.reduceLeDiff, Nat.reduceEqDiff, Nat.reduceAdd, Nat.reduceMul, Nat.reduceSub, reduceIte, reduceCtorEq, encE, hw, hzt2, hzi2, hzx2, hzl2]
          refine ops_if 61 rfl (fun hg61 => ?_) (fun hg61 => ?_)
          · skip
            refine opsRunN tok 8 ?_
            simp only [go_sem, Nat.reduceLT, Nat.reduceLeDiff, Nat.reduceEqDiff, Nat.reduceAdd, Nat.reduceMul, Nat.reduceSub, reduceIte, reduceCtorEq, encE, hw, hzt2, hzi2, hzx2, hzl2]
            refine opsRunN tok 2 ?_
            simp only [go_sem, Nat.reduceLT, Nat.reduceLeDiff, Nat.reduceEqDiff, Nat.reduceAdd, Nat.reduceMul, Nat.reduceSub, reduceIte, reduceCtorEq, encE, hw, hzt2, hzi2, hzx2, hzl2]
            refine opsWp_nil ?_
            refine hK _ _ (awp_keepM [true, false, false, false, false, false, false, false, false, false, false, false, false, true, true, true, false, false, false, false, false, false, false, false, false, false, false, false, false, false, false, false, false, false, false, false, false, false, false, false, false, false, false, false, false, false, false, false, false, false, false, false, false, false, false, false, false, false, false, false, false, false, false, false, false, false, false, false, false, false, false, true] ?_)
            clear hK K
            try simp only [go_sem, Nat.reduceLT, Nat.reduceLeDiff, Nat.reduceEqDiff, Nat.reduceAdd, Nat.reduceMul, Nat.reduceSub, reduceIte, reduceCtorEq]
            refine awp_cond_t rfl ?_
            refine reg tok [false, false, false, false, true] fun K hK => ?_
            simp only [go_sem, Nat.reduceLT, Nat.reduceLeDiff, Nat.reduceEqDiff, Nat.reduceAdd, Nat.reduceMul, Nat.reduceSub, reduceIte, reduceCtorEq, encE, hw, hzt2, hzi2, hzx2, hzl2]
            refine hK _ _ ?_
            clear hK K
            refine awp_ret ?_
            simp only [retQ, resAll, resOne, resAV, exists_eq_left', go_sem, Nat.reduceLT, Nat.reduceLeDiff, Nat.reduceEqDiff, Nat.reduceAdd, Nat.reduceMul, Nat.reduceSub, reduceIte, reduceCtorEq, encE]
            have h2 : fitS (ns.getD e.f.toNat default) (ns.getD e.t.toNat default) = false := by rw [g1, g2]; unfold fitS; rw [hg61]; simp
            simp only [tell, hI, rightS, h2, Bool.false_and, Bool.and_false]
          · skip
            refine opsRunN tok 8 ?_
            simp only [go_sem, Nat.reduceLT, Nat.reduceLeDiff, Nat.reduceEqDiff, Nat.reduceAdd, Nat.reduceMul, Nat.reduceSub, reduceIte, reduceCtorEq, encE, hw, hzt2, hzi2, hzx2, hzl2]
            refine opsRunN tok 2 ?_
            simp only [go_sem, Nat.reduceLT, Nat.reduceLeDiff, Nat.reduceEqDiff, Nat.reduceAdd, Nat.reduceMul, Nat.reduceSub, reduceIte, reduceCtorEq, encE, hw, hzt2, hzi2, hzx2, hzl2]
            refine opsWp_nil ?_
            refine hK _ _ (awp_keepM [true, false, false, false, false, false, false, false, false, false, false, false, false, true, true, true, false, false, false, false, false, false, false, false, false, false, false, false, false, false, false, false, false, false, false, false, false, false, false, false, false, false, false, false, false, false, false, false, false, false, false, false, false, false, false, false, false, false, false, false, false, false, false, false, false, false, false, false, false, false, false, true] ?_)
            clear hK K
            try simp only [go_sem, Nat.reduceLT, Nat.reduceLeDiff, Nat.reduceEqDiff, Nat.reduceAdd, Nat.reduceMul, Nat.reduceSub, reduceIte, reduceCtorEq]
            refine awp_if rfl (fun hcc13 => ?_) (fun hcc13 => ?_)
            · skip
              refine reg tok [false, false, false, false, true] fun K hK => ?_
              simp only [go_sem, Nat.reduceLT, Nat.reduceLeDiff, Nat.reduceEqDiff, Nat.reduceAdd, Nat.reduceMul, Nat.reduceSub, reduceIte, reduceCtorEq, encE, hw, hzt2, hzi2, hzx2, hzl2]
              refine hK _ _ ?_
              clear hK K
              refine awp_ret ?_
              simp only [retQ, resAll, resOne, resAV, exists_eq_left', go_sem, Nat.reduceLT, Nat.reduceLeDiff, Nat.reduceEqDiff, Nat.reduceAdd, Nat.reduceMul, Nat.reduceSub, reduceIte, reduceCtorEq, encE]
              have h2 : fitS (ns.getD e.f.toNat default) (ns.getD e.t.toNat default) = false := by rw [g1, g2]; unfold fitS min2 max2; rw [decide_eq_false (fun h => h hcc13)]; simp
              simp only [tell, hI, rightS, h2, Bool.false_and, Bool.and_false]
            · skip
              refine awp_skip ?_
              refine hZ7 _ _ ?_
              refine regEnd tok ?_
              simp only [go_sem, Nat.reduceLT, Nat.reduceLeDiff, Nat.reduceEqDiff, Nat.reduceAdd, Nat.reduceMul, Nat.reduceSub, reduceIte, reduceCtorEq, encE, hw, hzt2, hzi2, hzx2, hzl2]
              refine ⟨_, _, _, ?_, ⟨pre ++ [e], post, rfl, rfl, rfl, ?_⟩, ?_⟩
              · simp
              · exact ⟨by simpa using hE, by rw [hI, rightS, g1, g2, show okE ns e = true by simp [okE, hg26, hcc10], show fitS ns[e.f.toNat] ns[e.t.toNat] = true by (unfold fitS min2 max2; rw [hg57, hg61, decide_eq_true hcc13]; rfl)]; rfl⟩
              · exact Tells.mk' [] false 12 (by decide) (by simp) (by first | rfl | simp) (by first | rfl | simp [tell_u, tell_bool, tell_int, tell_str, tell_nilp, tell_nilm, tell_nilI, tell_nilF, tell_agg, tell_tup, tell_ifc, tell_ds, tell_dp, tell_op, tell_os, tell_mp, idxOf_nil, idxOf_cons, tellS_nil, tellS_cons, tellO_cells, tellO_map, tellO_iter, tellO_dead, store_get0, store_getS, tell_canonL, tell_canon, canonL, AV.canon, Bool.or_true, Bool.or_false, Bool.and_true, Bool.and_false, Bool.not_true, Bool.not_false, Option.some.injEq, canonL_N, canonL_E, encE]) ⟨.inr (by first | exact tell_canon _ _ _ (.ds true (ns.flatMap encN) ns.length false) 12 (by simp [AV.canon, canonL, canonL_N, canonL_E, encE]) | rfl), .inl rfl, .inl rfl, .inl rfl, .inl rfl, .inl rfl, .inl rfl, .inl rfl, .inl rfl, .inl rfl, .inl rfl, .inl rfl, .inl rfl, .inr (by first | exact tell_canon _ _ _ (.ds true (es.flatMap encE) es.length false) 12 (by simp [AV.canon, canonL, canonL_N, canonL_E, encE]) | rfl), .inr (by first | exact tell_canon _ _ _ (.int .i64 es.length) 12 (by simp [AV.canon, canonL, canonL_N, canonL_E, encE]) | rfl), .inr (by first | exact tell_canon _ _ _ (.int .i64 pre.length) 12 (by simp [AV.canon, canonL, canonL_N, canonL_E, encE]) | rfl), trivial⟩

theorem right_pc_ev (ns : List Nd) (es : List Ed) (hn : ns.length < 9223372036854775808) (he : es.length < 9223372036854775808) (σ : Store) : ACalls Try.prog 37 [.ds true (ns.flatMap encN) ns.length false, .ds true (es.flatMap encE) es.length false] σ fun r σ' => r = .bool (rightS ns es) ∧ σ' = σ :=
  (right_pc ns es hn he).pureAt (by simp [AV.canon, canonL, canonL_N, canonL_E, encE]) (by simp [AV.canon, canonL, canonL_N, canonL_E, encE]) σ


end Go.Proofs.Ytplddidoobjcnaa
