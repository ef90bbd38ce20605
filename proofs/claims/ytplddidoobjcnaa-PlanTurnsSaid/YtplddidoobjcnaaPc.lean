/- The planner's functions: what they compute (third part). -/
import Derived.Test.YtplddidoobjcnaaPb
set_option maxRecDepth 4000
set_option linter.unusedSimpArgs false
set_option linter.unusedVariables false
set_option linter.constructorNameAsVariable false
namespace Go.Proofs.Ytplddidoobjcnaa
open AM

def okN (x : Nd) : Bool := (decide (1 ≤ x.v) && decide (x.v ≤ 12)) && ((decide (x.v ≤ x.t) && decide (x.t ≤ 12)) && (decide (0 ≤ x.b) && decide (x.b ≤ 12)))

/-- How many states there are. -/
def prodS : List Nd → Int
  | [] => 1
  | x :: l => (x.t - x.v + 1) * prodS l

def checkS (ns : List Nd) (es : List Ed) : Int :=
  if 6 < ns.length ∨ 64 < es.length then 1 else if ns.all okN && es.all (okE ns) then (if 4096 < prodS ns then 4 else 0) else 1

theorem okN_spec {x : Nd} (h : okN x = true) : (1 ≤ x.v ∧ x.v ≤ 12) ∧ (x.v ≤ x.t ∧ x.t ≤ 12) ∧ (0 ≤ x.b ∧ x.b ≤ 12) := by
  simpa [okN, and_assoc] using h

theorem prodS_bound : ∀ {l : List Nd}, l.all okN = true → 1 ≤ prodS l ∧ prodS l ≤ 12 ^ l.length := by
  intro l
  induction l with
  | nil => intro _; simp [prodS]
  | cons x l ih =>
    intro h
    simp only [List.all_cons, Bool.and_eq_true] at h
    obtain ⟨⟨h1, h2⟩, ⟨h3, h4⟩, _⟩ := okN_spec h.1
    obtain ⟨i1, i2⟩ := ih h.2
    have a : (1 : Int) ≤ x.t - x.v + 1 := by omega
    have b : x.t - x.v + 1 ≤ 12 := by omega
    simp only [prodS, List.length_cons, Int.pow_succ]
    refine ⟨?_, ?_⟩
    · have := Int.mul_le_mul a i1 (by decide) (by omega); omega
    · have := Int.mul_le_mul b i2 (by omega) (by decide)
      rw [Int.mul_comm (12 ^ l.length) 12]; exact this

theorem prodS_snoc (l : List Nd) (x : Nd) : prodS (l ++ [x]) = prodS l * (x.t - x.v + 1) := by
  induction l with
  | nil => simp [prodS]
  | cons y l ih => simp only [List.cons_append, prodS, ih]; rw [Int.mul_assoc]

/-- So many states, of few right nodes: the number fits. -/
theorem prodS_in {l : List Nd} (h : l.all okN = true) (hn : l.length ≤ 6) : 1 ≤ prodS l ∧ prodS l ≤ 2985984 := by
  obtain ⟨h1, h2⟩ := prodS_bound h
  refine ⟨h1, Int.le_trans h2 ?_⟩
  have : ∀ n : Nat, n ≤ 6 → (12 : Int) ^ n ≤ 2985984 := by
    intro n hn
    match n, hn with
    | 0, _ | 1, _ | 2, _ | 3, _ | 4, _ | 5, _ | 6, _ => decide
  exact this _ hn

theorem check_one {ns : List Nd} {es : List Ed} (h : (ns.all okN && es.all (okE ns)) = false) : checkS ns es = 1 := by
  unfold checkS
  split
  · rfl
  · rw [h]; rfl

theorem check_badE {ns : List Nd} {es pre post : List Ed} {x : Ed} (h : es = pre ++ x :: post) (hx : okE ns x = false) : checkS ns es = 1 := check_one (by rw [h]; simp [hx])
theorem check_badN {ns pre post : List Nd} {es : List Ed} {x : Nd} (h : ns = pre ++ x :: post) (hx : okN x = false) : checkS ns es = 1 := check_one (by rw [h]; simp [hx])

theorem place_pc (v n : Int) (hn : 0 < n) : ACalls Try.prog 14 [.int .i64 v, .int .i64 n] [] (fun r _ => r = .int .i64 (if v.tmod n < 0 then IntKind.i64.wrap (v.tmod n + n) else v.tmod n)) := by
  refine acalls_pure (rs := [.tmp 4]) tok Try.func14 rfl Try.ntmps14 rfl Try.call14 (by simp) ?_
  have hz : (n = 0) = False := eq_false (by omega)
  refine reg tok [true, true] fun K hK => ?_
  simp only [go_sem, Nat.reduceLT, Nat.reduceLeDiff, Nat.reduceEqDiff, Nat.reduceAdd, Nat.reduceMul, Nat.reduceSub, reduceIte, reduceCtorEq, hz]
  refine hK _ _ ?_
  clear hK K
  refine reg tok [false, true, false, false, false, true] fun K hK => ?_
  simp only [go_sem, Nat.reduceLT, Nat.reduceLeDiff, Nat.reduceEqDiff, Nat.reduceAdd, Nat.reduceMul, Nat.reduceSub, reduceIte, reduceCtorEq, hz]
  refine hK _ _ ?_
  clear hK K
  refine awp_seq_k fun Z1 hZ1 => ?_
  refine reg tok [false, true, false, false, false, true, false, false, false, false, true] fun K hK => ?_
  simp only [go_sem, Nat.reduceLT, Nat.reduceLeDiff, Nat.reduceEqDiff, Nat.reduceAdd, Nat.reduceMul, Nat.reduceSub, reduceIte, reduceCtorEq, hz]
  refine hK _ _ ?_
  clear hK K
  refine awp_if rfl (fun hcc2 => ?_) (fun hcc2 => ?_)
  · skip
    refine regEnd tok ?_
    simp only [go_sem, Nat.reduceLT, Nat.reduceLeDiff, Nat.reduceEqDiff, Nat.reduceAdd, Nat.reduceMul, Nat.reduceSub, reduceIte, reduceCtorEq, hz]
    refine hZ1 _ _ ?_
    refine reg tok [false, false, false, false, true] fun K hK => ?_
    simp only [go_sem, Nat.reduceLT, Nat.reduceLeDiff, Nat.reduceEqDiff, Nat.reduceAdd, Nat.reduceMul, Nat.reduceSub, reduceIte, reduceCtorEq, hz]
    refine hK _ _ ?_
    clear hK K
    refine awp_ret ?_
    simp only [retQ, resAll, resOne, resAV, exists_eq_left', go_sem, Nat.reduceLT, Nat.reduceLeDiff, Nat.reduceEqDiff, Nat.reduceAdd, Nat.reduceMul, Nat.reduceSub, reduceIte, reduceCtorEq]
    simp [tell_int, *]
  · skip
    refine awp_skip ?_
    refine hZ1 _ _ ?_
    refine reg tok [false, false, false, false, true] fun K hK => ?_
    simp only [go_sem, Nat.reduceLT, Nat.reduceLeDiff, Nat.reduceEqDiff, Nat.reduceAdd, Nat.reduceMul, Nat.reduceSub, reduceIte, reduceCtorEq, hz]
    refine hK _ _ ?_
    clear hK K
    refine awp_ret ?_
    simp only [retQ, resAll, resOne, resAV, exists_eq_left', go_sem, Nat.reduceLT, Nat.reduceLeDiff, Nat.reduceEqDiff, Nat.reduceAdd, Nat.reduceMul, Nat.reduceSub, reduceIte, reduceCtorEq]
    simp [tell_int, *]

theorem place_pc_ev (v n : Int) (hn : 0 < n) (σ : Store) : ACalls Try.prog 14 [.int .i64 v, .int .i64 n] σ fun r σ' => r = .int .i64 (if v.tmod n < 0 then IntKind.i64.wrap (v.tmod n + n) else v.tmod n) ∧ σ' = σ :=
  (place_pc v n hn).pureAt (by simp [AV.canon, canonL]) (by simp [AV.canon, canonL]) σ


theorem nodes_pc (l : List Nd) (hl : l.length < 64) : ACalls Try.prog 33 [.ds true (l.flatMap encN) l.length false] [] (fun r _ => r = .ds true (l.flatMap encN) l.length false) := by
  refine acalls_pure (rs := [.tmp 2]) tok Try.func33 rfl Try.ntmps33 rfl Try.call33 (by simp) ?_
  have happ := fun nl' tt' nl tt σ => encN_E.app encN_one rfl (by decide) l (.ds nl' [] 0 tt') (by show (0 + l.length) * 24 ≤ 140737488355328; omega) nl tt σ
  refine reg tok [true] fun K hK => ?_
  simp only [go_sem, Nat.reduceLT, Nat.reduceLeDiff, Nat.reduceEqDiff, Nat.reduceAdd, Nat.reduceMul, Nat.reduceSub, reduceIte, reduceCtorEq, happ]
  refine hK _ _ ?_
  clear hK K
  refine reg tok [false, false, true] fun K hK => ?_
  simp only [go_sem, Nat.reduceLT, Nat.reduceLeDiff, Nat.reduceEqDiff, Nat.reduceAdd, Nat.reduceMul, Nat.reduceSub, reduceIte, reduceCtorEq, evAppendTo, lenOfAV, srcCells, happ]
  refine hK _ _ ?_
  clear hK K
  refine awp_ret ?_
  simp only [retQ, resAll, resOne, resAV, exists_eq_left', go_sem, Nat.reduceLT, Nat.reduceLeDiff, Nat.reduceEqDiff, Nat.reduceAdd, Nat.reduceMul, Nat.reduceSub, reduceIte, reduceCtorEq]
  exact tell_enc encN_E.len rfl rfl rfl (canonL_N _ _) _ _

theorem nodes_pc_ev (l : List Nd) (hl : l.length < 64) (σ : Store) : ACalls Try.prog 33 [.ds true (l.flatMap encN) l.length false] σ fun r σ' => r = .ds true (l.flatMap encN) l.length false ∧ σ' = σ :=
  (nodes_pc l hl).pureAt (by simp [AV.canon, canonL, canonL_N]) (by simp [AV.canon, canonL, canonL_N]) σ


theorem nodes_own (l : List Nd) (hl : l.length < 64) : ACalls Try.prog 33 [.ds true (l.flatMap encN) l.length false] [] (fun r σ' => r = .os true 3 0 0 0 l.length false ∧ σ' = [.cells 0 (l.flatMap encN)]) := by
  refine acalls_st (rs := [.tmp 2]) [0] tok Try.func33 rfl Try.ntmps33 rfl Try.call33 (by simp) (by first | rfl | simp) ?_
  have happ := fun nl' tt' nl tt σ => encN_E.app encN_one rfl (by decide) l (.ds nl' [] 0 tt') (by show (0 + l.length) * 24 ≤ 140737488355328; omega) nl tt σ
  refine reg tok [true] fun K hK => ?_
  simp only [go_sem, Nat.reduceLT, Nat.reduceLeDiff, Nat.reduceEqDiff, Nat.reduceAdd, Nat.reduceMul, Nat.reduceSub, reduceIte, reduceCtorEq, happ]
  refine hK _ _ ?_
  clear hK K
  refine reg tok [false, false, true] fun K hK => ?_
  simp only [go_sem, Nat.reduceLT, Nat.reduceLeDiff, Nat.reduceEqDiff, Nat.reduceAdd, Nat.reduceMul, Nat.reduceSub, reduceIte, reduceCtorEq, evAppendTo, lenOfAV, srcCells, happ]
  refine hK _ _ ?_
  clear hK K
  refine awp_ret ?_
  simp only [retQ, resAll, resOne, resAV, exists_eq_left', go_sem, Nat.reduceLT, Nat.reduceLeDiff, Nat.reduceEqDiff, Nat.reduceAdd, Nat.reduceMul, Nat.reduceSub, reduceIte, reduceCtorEq]
  first | rfl | (simp [tell_u, tell_bool, tell_int, tell_str, tell_nilp, tell_nilm, tell_nilI, tell_nilF, tell_agg, tell_tup, tell_ifc, tell_ds, tell_dp, tell_op, tell_os, tell_mp, idxOf_nil, idxOf_cons, tellS_nil, tellS_cons, tellO_cells, tellO_map, tellO_iter, tellO_dead, store_get0, store_getS, tell_canonL, tell_canon, canonL, AV.canon, Bool.or_true, Bool.or_false, Bool.and_true, Bool.and_false, Bool.not_true, Bool.not_false, Option.some.injEq, canonL_N]; done) | (simp [tell, tell_canonL, *]; done)


theorem edges_pc (l : List Ed) (hl : l.length < 1024) : ACalls Try.prog 34 [.ds true (l.flatMap encE) l.length false] [] (fun r _ => r = .ds true (l.flatMap encE) l.length false) := by
  refine acalls_pure (rs := [.tmp 2]) tok Try.func34 rfl Try.ntmps34 rfl Try.call34 (by simp) ?_
  have happ := fun nl' tt' nl tt σ => encE_E.app encE_one rfl (by decide) l (.ds nl' [] 0 tt') (by show (0 + l.length) * 16 ≤ 140737488355328; omega) nl tt σ
  refine reg tok [true] fun K hK => ?_
  simp only [go_sem, Nat.reduceLT, Nat.reduceLeDiff, Nat.reduceEqDiff, Nat.reduceAdd, Nat.reduceMul, Nat.reduceSub, reduceIte, reduceCtorEq, happ]
  refine hK _ _ ?_
  clear hK K
  refine reg tok [false, false, true] fun K hK => ?_
  simp only [go_sem, Nat.reduceLT, Nat.reduceLeDiff, Nat.reduceEqDiff, Nat.reduceAdd, Nat.reduceMul, Nat.reduceSub, reduceIte, reduceCtorEq, evAppendTo, lenOfAV, srcCells, happ]
  refine hK _ _ ?_
  clear hK K
  refine awp_ret ?_
  simp only [retQ, resAll, resOne, resAV, exists_eq_left', go_sem, Nat.reduceLT, Nat.reduceLeDiff, Nat.reduceEqDiff, Nat.reduceAdd, Nat.reduceMul, Nat.reduceSub, reduceIte, reduceCtorEq]
  exact tell_enc encE_E.len rfl rfl rfl (canonL_E _ _) _ _

theorem edges_pc_ev (l : List Ed) (hl : l.length < 1024) (σ : Store) : ACalls Try.prog 34 [.ds true (l.flatMap encE) l.length false] σ fun r σ' => r = .ds true (l.flatMap encE) l.length false ∧ σ' = σ :=
  (edges_pc l hl).pureAt (by simp [AV.canon, canonL, canonL_E]) (by simp [AV.canon, canonL, canonL_E]) σ


theorem check_pc (ns : List Nd) (es : List Ed) (hn : ns.length < 9223372036854775808) (he : es.length < 9223372036854775808) : ACalls Try.prog 40 [.ds true (ns.flatMap encN) ns.length false, .ds true (es.flatMap encE) es.length false] [] (fun r _ => r = .int .i64 (checkS ns es)) := by
  refine acalls_pure (rs := [.tmp 4]) tok Try.func40 rfl Try.ntmps40 rfl Try.call40 (by simp) ?_
  have hw : IntKind.i64.wrap ((ns.length : Int) - 1) = (ns.length : Int) - 1 := i64_in (by omega) (by omega)
  refine reg tok [true, true] fun K hK => ?_
  simp only [go_sem, Nat.reduceLT, Nat.reduceLeDiff, Nat.reduceEqDiff, Nat.reduceAdd, Nat.reduceMul, Nat.reduceSub, reduceIte, reduceCtorEq, encE, encN, hw]
  refine hK _ _ ?_
  clear hK K
  refine awp_seq_k fun Z1 hZ1 => ?_
  refine awp_seq_k fun K hK => ?_
  refine awp_region ?_
  refine opsRunN tok 4 ?_
  simp only [go_sem, Nat.reduceLT, Nat.reduceLeDiff, Nat.reduceEqDiff, Nat.reduceAdd, Nat.reduceMul, Nat.reduceSub, reduceIte, reduceCtorEq, encE, encN, hw]
  refine ops_if 13 rfl (fun hg13 => ?_) (fun hg13 => ?_)
  · skip
    refine opsRunN tok 4 ?_
    simp only [go_sem, Nat.reduceLT, Nat.reduceLeDiff, Nat.reduceEqDiff, Nat.reduceAdd, Nat.reduceMul, Nat.reduceSub, reduceIte, reduceCtorEq, encE, encN, hw]
    refine opsWp_nil ?_
    refine hK _ _ (awp_keepM [true, true, false, false, false, false, false, false, false, false, false, false, false, false, false, false, false, true] ?_)
    clear hK K
    try simp only [go_sem, Nat.reduceLT, Nat.reduceLeDiff, Nat.reduceEqDiff, Nat.reduceAdd, Nat.reduceMul, Nat.reduceSub, reduceIte, reduceCtorEq]
    refine awp_cond_t rfl ?_
    refine reg tok [false, false, false, false, true] fun K hK => ?_
    simp only [go_sem, Nat.reduceLT, Nat.reduceLeDiff, Nat.reduceEqDiff, Nat.reduceAdd, Nat.reduceMul, Nat.reduceSub, reduceIte, reduceCtorEq, encE, encN, hw]
    refine hK _ _ ?_
    clear hK K
    refine awp_ret ?_
    simp only [retQ, resAll, resOne, resAV, exists_eq_left', go_sem, Nat.reduceLT, Nat.reduceLeDiff, Nat.reduceEqDiff, Nat.reduceAdd, Nat.reduceMul, Nat.reduceSub, reduceIte, reduceCtorEq, encE, encN]
    rw [tell_int, checkS, if_pos (Or.inl (by omega))]
  · skip
    refine opsRunN tok 4 ?_
    simp only [go_sem, Nat.reduceLT, Nat.reduceLeDiff, Nat.reduceEqDiff, Nat.reduceAdd, Nat.reduceMul, Nat.reduceSub, reduceIte, reduceCtorEq, encE, encN, hw]
    refine opsWp_nil ?_
    refine hK _ _ (awp_keepM [true, true, false, false, false, false, false, false, false, false, false, false, false, false, false, false, false, true] ?_)
    clear hK K
    try simp only [go_sem, Nat.reduceLT, Nat.reduceLeDiff, Nat.reduceEqDiff, Nat.reduceAdd, Nat.reduceMul, Nat.reduceSub, reduceIte, reduceCtorEq]
    refine awp_if rfl (fun hcc3 => ?_) (fun hcc3 => ?_)
    · skip
      refine reg tok [false, false, false, false, true] fun K hK => ?_
      simp only [go_sem, Nat.reduceLT, Nat.reduceLeDiff, Nat.reduceEqDiff, Nat.reduceAdd, Nat.reduceMul, Nat.reduceSub, reduceIte, reduceCtorEq, encE, encN, hw]
      refine hK _ _ ?_
      clear hK K
      refine awp_ret ?_
      simp only [retQ, resAll, resOne, resAV, exists_eq_left', go_sem, Nat.reduceLT, Nat.reduceLeDiff, Nat.reduceEqDiff, Nat.reduceAdd, Nat.reduceMul, Nat.reduceSub, reduceIte, reduceCtorEq, encE, encN]
      rw [tell_int, checkS, if_pos (Or.inr (by omega))]
    · skip
      refine awp_skip ?_
      refine hZ1 _ _ ?_
      refine reg tok [true, true, false, false, false, true] fun K hK => ?_
      simp only [go_sem, Nat.reduceLT, Nat.reduceLeDiff, Nat.reduceEqDiff, Nat.reduceAdd, Nat.reduceMul, Nat.reduceSub, reduceIte, reduceCtorEq, encE, encN, hw]
      refine hK _ _ ?_
      clear hK K
      refine awp_seq_k fun Z4 hZ4 => ?_
      refine reg tok [true, true, false, false, false, true, false, false, false, false, false, false, false, false, false, false, false, false, true, true, true] fun K hK => ?_
      simp only [go_sem, Nat.reduceLT, Nat.reduceLeDiff, Nat.reduceEqDiff, Nat.reduceAdd, Nat.reduceMul, Nat.reduceSub, reduceIte, reduceCtorEq, encE, encN, hw]
      refine hK _ _ ?_
      clear hK K
      refine awp_block ?_
      refine awp_loopT (fun m L τ => ∃ pre post, m = post.length ∧ L = ([(.ds true (ns.flatMap encN) ns.length false), (.ds true (es.flatMap encE) es.length false), .u, .u, .u, (.int .i64 (prodS pre)), .u, .u, .u, .u, .u, .u, .u, .u, .u, .u, .u, .u, (.ds true (ns.flatMap encN) ns.length false), (.int .i64 ns.length), (.int .i64 pre.length)] : List AV) ∧ τ = ([] : Store) ∧ ns = pre ++ post ∧ pre.all okN = true) _ ⟨[], ns, rfl, rfl, rfl, by simp⟩ ?_ ?_
      · exact Tells.mk' [] false 12 (by decide) (by simp) (by first | rfl | simp) (by first | rfl | simp [tell_u, tell_bool, tell_int, tell_str, tell_nilp, tell_nilm, tell_nilI, tell_nilF, tell_agg, tell_tup, tell_ifc, tell_ds, tell_dp, tell_op, tell_os, tell_mp, idxOf_nil, idxOf_cons, tellS_nil, tellS_cons, tellO_cells, tellO_map, tellO_iter, tellO_dead, store_get0, store_getS, tell_canonL, tell_canon, canonL, AV.canon, Bool.or_true, Bool.or_false, Bool.and_true, Bool.and_false, Bool.not_true, Bool.not_false, Option.some.injEq, canonL_N, canonL_E, encE, encN]) ⟨.inr (by first | exact tell_canon _ _ _ (.ds true (ns.flatMap encN) ns.length false) 12 (by simp [AV.canon, canonL, canonL_N, canonL_E, encE, encN]) | rfl), .inr (by first | exact tell_canon _ _ _ (.ds true (es.flatMap encE) es.length false) 12 (by simp [AV.canon, canonL, canonL_N, canonL_E, encE, encN]) | rfl), .inl rfl, .inl rfl, .inl rfl, .inr (by first | exact tell_canon _ _ _ (.int .i64 (prodS pre)) 12 (by simp [AV.canon, canonL, canonL_N, canonL_E, encE, encN]) | rfl), .inl rfl, .inl rfl, .inl rfl, .inl rfl, .inl rfl, .inl rfl, .inl rfl, .inl rfl, .inl rfl, .inl rfl, .inl rfl, .inl rfl, .inr (by first | exact tell_canon _ _ _ (.ds true (ns.flatMap encN) ns.length false) 12 (by simp [AV.canon, canonL, canonL_N, canonL_E, encE, encN]) | rfl), .inr (by first | exact tell_canon _ _ _ (.int .i64 ns.length) 12 (by simp [AV.canon, canonL, canonL_N, canonL_E, encE, encN]) | rfl), .inr (by first | exact tell_canon _ _ _ (.int .i64 pre.length) 12 (by simp [AV.canon, canonL, canonL_N, canonL_E, encE, encN]) | rfl), trivial⟩
      rintro m L τ ⟨pre, post, rfl, rfl, rfl, hE0, hI0⟩
      rcases post with _ | ⟨x, post⟩
      · have hzf5 := z_false hE0
        have e : ns = pre := by simpa using hE0
        subst e
        refine reg tok [true, true, false, false, false, true, false, false, false, false, false, false, false, false, false, false, false, false, true, true, true, true] fun K hK => ?_
        simp only [go_sem, Nat.reduceLT, Nat.reduceLeDiff, Nat.reduceEqDiff, Nat.reduceAdd, Nat.reduceMul, Nat.reduceSub, reduceIte, reduceCtorEq, encE, encN, hw, hzf5]
        refine hK _ _ ?_
        clear hK K
        refine awp_seq_k fun Z6 hZ6 => ?_
        refine awp_cond_f rfl ?_
        refine awp_exit ?_
        refine hZ4 _ _ ?_
        refine awp_seq_k fun Z8 hZ8 => ?_
        refine reg tok [true, false, false, false, false, true, false, false, false, false, false, false, false, false, false, false, false, false, false, false, false, false, false, false, false, false, false, false, false, false, false, false, false, false, false, false, false, false, false, false, false, false, false, false, false, false, false, false, false, false, false, true, true, true] fun K hK => ?_
        simp only [go_sem, Nat.reduceLT, Nat.reduceLeDiff, Nat.reduceEqDiff, Nat.reduceAdd, Nat.reduceMul, Nat.reduceSub, reduceIte, reduceCtorEq, encE, encN, hw, hzf5]
        refine hK _ _ ?_
        clear hK K
        refine awp_block ?_
        refine awp_loopT (fun m L τ => ∃ pre post, m = post.length ∧ L = ([(.ds true (ns.flatMap encN) ns.length false), .u, .u, .u, .u, (.int .i64 (prodS ns)), .u, .u, .u, .u, .u, .u, .u, .u, .u, .u, .u, .u, .u, .u, .u, .u, .u, .u, .u, .u, .u, .u, .u, .u, .u, .u, .u, .u, .u, .u, .u, .u, .u, .u, .u, .u, .u, .u, .u, .u, .u, .u, .u, .u, .u, (.ds true (es.flatMap encE) es.length false), (.int .i64 es.length), (.int .i64 pre.length)] : List AV) ∧ τ = ([] : Store) ∧ es = pre ++ post ∧ pre.all (okE ns) = true) _ ⟨[], es, rfl, rfl, rfl, by simp⟩ ?_ ?_
        · exact Tells.mk' [] false 12 (by decide) (by simp) (by first | rfl | simp) (by first | rfl | simp [tell_u, tell_bool, tell_int, tell_str, tell_nilp, tell_nilm, tell_nilI, tell_nilF, tell_agg, tell_tup, tell_ifc, tell_ds, tell_dp, tell_op, tell_os, tell_mp, idxOf_nil, idxOf_cons, tellS_nil, tellS_cons, tellO_cells, tellO_map, tellO_iter, tellO_dead, store_get0, store_getS, tell_canonL, tell_canon, canonL, AV.canon, Bool.or_true, Bool.or_false, Bool.and_true, Bool.and_false, Bool.not_true, Bool.not_false, Option.some.injEq, canonL_N, canonL_E, encE, encN]) ⟨.inr (by first | exact tell_canon _ _ _ (.ds true (ns.flatMap encN) ns.length false) 12 (by simp [AV.canon, canonL, canonL_N, canonL_E, encE, encN]) | rfl), .inl rfl, .inl rfl, .inl rfl, .inl rfl, .inr (by first | exact tell_canon _ _ _ (.int .i64 (prodS ns)) 12 (by simp [AV.canon, canonL, canonL_N, canonL_E, encE, encN]) | rfl), .inl rfl, .inl rfl, .inl rfl, .inl rfl, .inl rfl, .inl rfl, .inl rfl, .inl rfl, .inl rfl, .inl rfl, .inl rfl, .inl rfl, .inl rfl, .inl rfl, .inl rfl, .inl rfl, .inl rfl, .inl rfl, .inl rfl, .inl rfl, .inl rfl, .inl rfl, .inl rfl, .inl rfl, .inl rfl, .inl rfl, .inl rfl, .inl rfl, .inl rfl, .inl rfl, .inl rfl, .inl rfl, .inl rfl, .inl rfl, .inl rfl, .inl rfl, .inl rfl, .inl rfl, .inl rfl, .inl rfl, .inl rfl, .inl rfl, .inl rfl, .inl rfl, .inl rfl, .inr (by first | exact tell_canon _ _ _ (.ds true (es.flatMap encE) es.length false) 12 (by simp [AV.canon, canonL, canonL_N, canonL_E, encE, encN]) | rfl), .inr (by first | exact tell_canon _ _ _ (.int .i64 es.length) 12 (by simp [AV.canon, canonL, canonL_N, canonL_E, encE, encN]) | rfl), .inr (by first | exact tell_canon _ _ _ (.int .i64 pre.length) 12 (by simp [AV.canon, canonL, canonL_N, canonL_E, encE, encN]) | rfl), trivial⟩
        rintro m L τ ⟨pre, post, rfl, rfl, rfl, hE2, hI2⟩
        rcases post with _ | ⟨x, post⟩
        · have hzf9 := z_false hE2
          refine reg tok [true, false, false, false, false, true, false, false, false, false, false, false, false, false, false, false, false, false, false, false, false, false, false, false, false, false, false, false, false, false, false, false, false, false, false, false, false, false, false, false, false, false, false, false, false, false, false, false, false, false, false, true, true, true, true] fun K hK => ?_
          simp only [go_sem, Nat.reduceLT, Nat.reduceLeDiff, Nat.reduceEqDiff, Nat.reduceAdd, Nat.reduceMul, Nat.reduceSub, reduceIte, reduceCtorEq, encE, encN, hw, hzf5, hzf9]
          refine hK _ _ ?_
          clear hK K
          refine awp_seq_k fun Z10 hZ10 => ?_
          refine awp_cond_f rfl ?_
          refine awp_exit ?_
          refine hZ8 _ _ ?_
          refine awp_seq_k fun Z12 hZ12 => ?_
          refine reg tok [false, false, false, false, false, false, false, false, false, false, false, false, false, false, false, false, false, false, false, false, false, false, false, false, false, false, false, false, false, false, false, false, false, false, false, false, false, false, false, false, false, false, false, false, false, false, false, false, false, false, false, false, false, false, false, false, false, false, false, false, false, false, false, false, false, false, false, false, false, false, false, false, false, false, false, true] fun K hK => ?_
          simp only [go_sem, Nat.reduceLT, Nat.reduceLeDiff, Nat.reduceEqDiff, Nat.reduceAdd, Nat.reduceMul, Nat.reduceSub, reduceIte, reduceCtorEq, encE, encN, hw, hzf5, hzf9]
          refine hK _ _ ?_
          clear hK K
          refine awp_if rfl (fun hcc13 => ?_) (fun hcc13 => ?_)
          · skip
            refine reg tok [false, false, false, false, true] fun K hK => ?_
            simp only [go_sem, Nat.reduceLT, Nat.reduceLeDiff, Nat.reduceEqDiff, Nat.reduceAdd, Nat.reduceMul, Nat.reduceSub, reduceIte, reduceCtorEq, encE, encN, hw, hzf5, hzf9]
            refine hK _ _ ?_
            clear hK K
            refine awp_ret ?_
            simp only [retQ, resAll, resOne, resAV, exists_eq_left', go_sem, Nat.reduceLT, Nat.reduceLeDiff, Nat.reduceEqDiff, Nat.reduceAdd, Nat.reduceMul, Nat.reduceSub, reduceIte, reduceCtorEq, encE, encN]
            have e : es = pre := by simpa using hE2
            subst e
            rw [tell_int, checkS, if_neg (by omega), if_pos (by rw [hI0, hI2]; rfl), if_pos hcc13]
          · skip
            refine awp_skip ?_
            refine hZ12 _ _ ?_
            refine reg tok [false, false, false, false, true] fun K hK => ?_
            simp only [go_sem, Nat.reduceLT, Nat.reduceLeDiff, Nat.reduceEqDiff, Nat.reduceAdd, Nat.reduceMul, Nat.reduceSub, reduceIte, reduceCtorEq, encE, encN, hw, hzf5, hzf9]
            refine hK _ _ ?_
            clear hK K
            refine awp_ret ?_
            simp only [retQ, resAll, resOne, resAV, exists_eq_left', go_sem, Nat.reduceLT, Nat.reduceLeDiff, Nat.reduceEqDiff, Nat.reduceAdd, Nat.reduceMul, Nat.reduceSub, reduceIte, reduceCtorEq, encE, encN]
            have e : es = pre := by simpa using hE2
            subst e
            rw [tell_int, checkS, if_neg (by omega), if_pos (by rw [hI0, hI2]; rfl), if_neg hcc13]
        · have hzt9 := z_true hE2
          have hzi9 := z_inc hE2 he
          have hzx9 := fun nl tt q => encE_E.idxZ hE2 nl tt q
          have hzl9 := encE_E.loadZ rfl rfl hE2
          refine reg tok [true, false, false, false, false, true, false, false, false, false, false, false, false, false, false, false, false, false, false, false, false, false, false, false, false, false, false, false, false, false, false, false, false, false, false, false, false, false, false, false, false, false, false, false, false, false, false, false, false, false, false, true, true, true, true] fun K hK => ?_
          simp only [go_sem, Nat.reduceLT, Nat.reduceLeDiff, Nat.reduceEqDiff, Nat.reduceAdd, Nat.reduceMul, Nat.reduceSub, reduceIte, reduceCtorEq, encE, encN, hw, hzf5, hzt9, hzi9, hzx9, hzl9]
          refine hK _ _ ?_
          clear hK K
          refine awp_seq_k fun Z14 hZ14 => ?_
          refine awp_cond_t rfl ?_
          refine awp_skip ?_
          refine hZ14 _ _ ?_
          refine awp_seq_k fun Z16 hZ16 => ?_
          refine awp_block ?_
          refine reg tok [true, false, false, false, false, true, false, false, false, true, false, false, false, false, false, false, false, false, false, false, false, false, false, false, false, false, false, false, false, false, false, false, false, false, false, false, false, false, false, false, false, false, false, false, false, false, false, false, false, false, false, true, true, true] fun K hK => ?_
          simp only [go_sem, Nat.reduceLT, Nat.reduceLeDiff, Nat.reduceEqDiff, Nat.reduceAdd, Nat.reduceMul, Nat.reduceSub, reduceIte, reduceCtorEq, encE, encN, hw, hzf5, hzt9, hzi9, hzx9, hzl9]
          refine hK _ _ ?_
          clear hK K
          refine awp_seq_k fun K hK => ?_
          refine awp_region ?_
          refine opsRunN tok 5 ?_
          simp only [go_sem, Nat.reduceLT, Nat.reduceLeDiff, Nat.reduceEqDiff, Nat.reduceAdd, Nat.reduceMul, Nat.reduceSub, reduceIte, reduceCtorEq, encE, encN, hw, hzf5, hzt9, hzi9, hzx9, hzl9]
          refine opsWp_callD rfl rfl rfl (in_pc_ev _ _ _ _) ?_
          rintro _ _ ⟨rfl, rfl⟩
          refine opsRunN tok 2 ?_
          simp only [go_sem, Nat.reduceLT, Nat.reduceLeDiff, Nat.reduceEqDiff, Nat.reduceAdd, Nat.reduceMul, Nat.reduceSub, reduceIte, reduceCtorEq, encE, encN, hw, hzf5, hzt9, hzi9, hzx9, hzl9]
          refine ops_if 64 rfl (fun hg64 => ?_) (fun hg64 => ?_)
          · skip
            refine opsRunN tok 8 ?_
            simp only [go_sem, Nat.reduceLT, Nat.reduceLeDiff, Nat.reduceEqDiff, Nat.reduceAdd, Nat.reduceMul, Nat.reduceSub, reduceIte, reduceCtorEq, encE, encN, hw, hzf5, hzt9, hzi9, hzx9, hzl9]
            refine opsWp_nil ?_
            refine hK _ _ (awp_keepM [true, false, false, false, false, true, false, false, false, false, false, false, false, false, false, false, false, false, false, false, false, false, false, false, false, false, false, false, false, false, false, false, false, false, false, false, false, false, false, false, false, false, false, false, false, false, false, false, false, false, false, true, true, true, false, false, false, false, false, false, false, false, false, false, false, false, false, false, false, false, false, false, true] ?_)
            clear hK K
            try simp only [go_sem, Nat.reduceLT, Nat.reduceLeDiff, Nat.reduceEqDiff, Nat.reduceAdd, Nat.reduceMul, Nat.reduceSub, reduceIte, reduceCtorEq]
            refine awp_cond_t rfl ?_
            refine reg tok [false, false, false, false, true] fun K hK => ?_
            simp only [go_sem, Nat.reduceLT, Nat.reduceLeDiff, Nat.reduceEqDiff, Nat.reduceAdd, Nat.reduceMul, Nat.reduceSub, reduceIte, reduceCtorEq, encE, encN, hw, hzf5, hzt9, hzi9, hzx9, hzl9]
            refine hK _ _ ?_
            clear hK K
            refine awp_ret ?_
            simp only [retQ, resAll, resOne, resAV, exists_eq_left', go_sem, Nat.reduceLT, Nat.reduceLeDiff, Nat.reduceEqDiff, Nat.reduceAdd, Nat.reduceMul, Nat.reduceSub, reduceIte, reduceCtorEq, encE, encN]
            rw [tell_int, check_badE hE2 (by unfold okE; rcases hg64 with h | h <;> simp [h])]
          · skip
            refine opsRunN tok 5 ?_
            simp only [go_sem, Nat.reduceLT, Nat.reduceLeDiff, Nat.reduceEqDiff, Nat.reduceAdd, Nat.reduceMul, Nat.reduceSub, reduceIte, reduceCtorEq, encE, encN, hw, hzf5, hzt9, hzi9, hzx9, hzl9]
            refine opsWp_callD rfl rfl rfl (in_pc_ev _ _ _ _) ?_
            rintro _ _ ⟨rfl, rfl⟩
            refine opsRunN tok 2 ?_
            simp only [go_sem, Nat.reduceLT, Nat.reduceLeDiff, Nat.reduceEqDiff, Nat.reduceAdd, Nat.reduceMul, Nat.reduceSub, reduceIte, reduceCtorEq, encE, encN, hw, hzf5, hzt9, hzi9, hzx9, hzl9]
            refine opsWp_nil ?_
            refine hK _ _ (awp_keepM [true, false, false, false, false, true, false, false, false, false, false, false, false, false, false, false, false, false, false, false, false, false, false, false, false, false, false, false, false, false, false, false, false, false, false, false, false, false, false, false, false, false, false, false, false, false, false, false, false, false, false, true, true, true, false, false, false, false, false, false, false, false, false, false, false, false, false, false, false, false, false, false, true] ?_)
            clear hK K
            try simp only [go_sem, Nat.reduceLT, Nat.reduceLeDiff, Nat.reduceEqDiff, Nat.reduceAdd, Nat.reduceMul, Nat.reduceSub, reduceIte, reduceCtorEq]
            refine awp_if rfl (fun hcc18 => ?_) (fun hcc18 => ?_)
            · skip
              refine reg tok [false, false, false, false, true] fun K hK => ?_
              simp only [go_sem, Nat.reduceLT, Nat.reduceLeDiff, Nat.reduceEqDiff, Nat.reduceAdd, Nat.reduceMul, Nat.reduceSub, reduceIte, reduceCtorEq, encE, encN, hw, hzf5, hzt9, hzi9, hzx9, hzl9]
              refine hK _ _ ?_
              clear hK K
              refine awp_ret ?_
              simp only [retQ, resAll, resOne, resAV, exists_eq_left', go_sem, Nat.reduceLT, Nat.reduceLeDiff, Nat.reduceEqDiff, Nat.reduceAdd, Nat.reduceMul, Nat.reduceSub, reduceIte, reduceCtorEq, encE, encN]
              rw [tell_int, check_badE hE2 (by unfold okE; rcases hcc18 with h | h <;> simp [h])]
            · skip
              refine awp_skip ?_
              refine hZ16 _ _ ?_
              refine regEnd tok ?_
              simp only [go_sem, Nat.reduceLT, Nat.reduceLeDiff, Nat.reduceEqDiff, Nat.reduceAdd, Nat.reduceMul, Nat.reduceSub, reduceIte, reduceCtorEq, encE, encN, hw, hzf5, hzt9, hzi9, hzx9, hzl9]
              refine ⟨_, _, _, ?_, ⟨pre ++ [x], post, rfl, rfl, rfl, ?_⟩, ?_⟩
              · simp
              · exact ⟨by simpa using hE2, by rw [List.all_append, hI2]; simp [okE, hg64, hcc18]⟩
              · exact Tells.mk' [] false 12 (by decide) (by simp) (by first | rfl | simp) (by first | rfl | simp [tell_u, tell_bool, tell_int, tell_str, tell_nilp, tell_nilm, tell_nilI, tell_nilF, tell_agg, tell_tup, tell_ifc, tell_ds, tell_dp, tell_op, tell_os, tell_mp, idxOf_nil, idxOf_cons, tellS_nil, tellS_cons, tellO_cells, tellO_map, tellO_iter, tellO_dead, store_get0, store_getS, tell_canonL, tell_canon, canonL, AV.canon, Bool.or_true, Bool.or_false, Bool.and_true, Bool.and_false, Bool.not_true, Bool.not_false, Option.some.injEq, canonL_N, canonL_E, encE, encN]) ⟨.inr (by first | exact tell_canon _ _ _ (.ds true (ns.flatMap encN) ns.length false) 12 (by simp [AV.canon, canonL, canonL_N, canonL_E, encE, encN]) | rfl), .inl rfl, .inl rfl, .inl rfl, .inl rfl, .inr (by first | exact tell_canon _ _ _ (.int .i64 (prodS ns)) 12 (by simp [AV.canon, canonL, canonL_N, canonL_E, encE, encN]) | rfl), .inl rfl, .inl rfl, .inl rfl, .inl rfl, .inl rfl, .inl rfl, .inl rfl, .inl rfl, .inl rfl, .inl rfl, .inl rfl, .inl rfl, .inl rfl, .inl rfl, .inl rfl, .inl rfl, .inl rfl, .inl rfl, .inl rfl, .inl rfl, .inl rfl, .inl rfl, .inl rfl, .inl rfl, .inl rfl, .inl rfl, .inl rfl, .inl rfl, .inl rfl, .inl rfl, .inl rfl, .inl rfl, .inl rfl, .inl rfl, .inl rfl, .inl rfl, .inl rfl, .inl rfl, .inl rfl, .inl rfl, .inl rfl, .inl rfl, .inl rfl, .inl rfl, .inl rfl, .inr (by first | exact tell_canon _ _ _ (.ds true (es.flatMap encE) es.length false) 12 (by simp [AV.canon, canonL, canonL_N, canonL_E, encE, encN]) | rfl), .inr (by first | exact tell_canon _ _ _ (.int .i64 es.length) 12 (by simp [AV.canon, canonL, canonL_N, canonL_E, encE, encN]) | rfl), .inr (by first | exact tell_canon _ _ _ (.int .i64 pre.length) 12 (by simp [AV.canon, canonL, canonL_N, canonL_E, encE, encN]) | rfl), trivial⟩
      · have hzt5 := z_true hE0
        have hzi5 := z_inc hE0 hn
        have hzx5 := fun nl tt q => encN_E.idxZ hE0 nl tt q
        have hzl5 := encN_E.loadZ rfl rfl hE0
        refine reg tok [true, true, false, false, false, true, false, false, false, false, false, false, false, false, false, false, false, false, true, true, true, true] fun K hK => ?_
        simp only [go_sem, Nat.reduceLT, Nat.reduceLeDiff, Nat.reduceEqDiff, Nat.reduceAdd, Nat.reduceMul, Nat.reduceSub, reduceIte, reduceCtorEq, encE, encN, hw, hzt5, hzi5, hzx5, hzl5]
        refine hK _ _ ?_
        clear hK K
        refine awp_seq_k fun Z19 hZ19 => ?_
        refine awp_cond_t rfl ?_
        refine awp_skip ?_
        refine hZ19 _ _ ?_
        refine awp_seq_k fun Z21 hZ21 => ?_
        refine awp_block ?_
        refine reg tok [true, true, false, false, false, true, false, true, false, false, false, false, false, false, false, false, false, false, true, true, true] fun K hK => ?_
        simp only [go_sem, Nat.reduceLT, Nat.reduceLeDiff, Nat.reduceEqDiff, Nat.reduceAdd, Nat.reduceMul, Nat.reduceSub, reduceIte, reduceCtorEq, encE, encN, hw, hzt5, hzi5, hzx5, hzl5]
        refine hK _ _ ?_
        clear hK K
        refine awp_seq_k fun Z22 hZ22 => ?_
        refine awp_seq_k fun K hK => ?_
        refine awp_region ?_
        refine opsRunN tok 2 ?_
        simp only [go_sem, Nat.reduceLT, Nat.reduceLeDiff, Nat.reduceEqDiff, Nat.reduceAdd, Nat.reduceMul, Nat.reduceSub, reduceIte, reduceCtorEq, encE, encN, hw, hzt5, hzi5, hzx5, hzl5]
        refine opsWp_callD rfl rfl rfl (in_pc_ev _ _ _ _) ?_
        rintro _ _ ⟨rfl, rfl⟩
        refine opsRunN tok 2 ?_
        simp only [go_sem, Nat.reduceLT, Nat.reduceLeDiff, Nat.reduceEqDiff, Nat.reduceAdd, Nat.reduceMul, Nat.reduceSub, reduceIte, reduceCtorEq, encE, encN, hw, hzt5, hzi5, hzx5, hzl5]
        refine ops_if 28 rfl (fun hg28 => ?_) (fun hg28 => ?_)
        · skip
          refine opsRunN tok 8 ?_
          simp only [go_sem, Nat.reduceLT, Nat.reduceLeDiff, Nat.reduceEqDiff, Nat.reduceAdd, Nat.reduceMul, Nat.reduceSub, reduceIte, reduceCtorEq, encE, encN, hw, hzt5, hzi5, hzx5, hzl5]
          refine opsRunN tok 5 ?_
          simp only [go_sem, Nat.reduceLT, Nat.reduceLeDiff, Nat.reduceEqDiff, Nat.reduceAdd, Nat.reduceMul, Nat.reduceSub, reduceIte, reduceCtorEq, encE, encN, hw, hzt5, hzi5, hzx5, hzl5]
          refine opsWp_nil ?_
          refine hK _ _ (awp_keepM [true, true, false, false, false, true, false, true, false, false, false, false, false, false, false, false, false, false, true, true, true, false, false, false, false, false, false, false, false, false, false, false, false, false, false, false, false, false, false, false, false, true] ?_)
          clear hK K
          try simp only [go_sem, Nat.reduceLT, Nat.reduceLeDiff, Nat.reduceEqDiff, Nat.reduceAdd, Nat.reduceMul, Nat.reduceSub, reduceIte, reduceCtorEq]
          refine awp_cond_t rfl ?_
          refine reg tok [false, false, false, false, true] fun K hK => ?_
          simp only [go_sem, Nat.reduceLT, Nat.reduceLeDiff, Nat.reduceEqDiff, Nat.reduceAdd, Nat.reduceMul, Nat.reduceSub, reduceIte, reduceCtorEq, encE, encN, hw, hzt5, hzi5, hzx5, hzl5]
          refine hK _ _ ?_
          clear hK K
          refine awp_ret ?_
          simp only [retQ, resAll, resOne, resAV, exists_eq_left', go_sem, Nat.reduceLT, Nat.reduceLeDiff, Nat.reduceEqDiff, Nat.reduceAdd, Nat.reduceMul, Nat.reduceSub, reduceIte, reduceCtorEq, encE, encN]
          rw [tell_int, check_badN hE0 (by unfold okN; rcases hg28 with h | h <;> simp [h])]
        · skip
          refine opsRunN tok 4 ?_
          simp only [go_sem, Nat.reduceLT, Nat.reduceLeDiff, Nat.reduceEqDiff, Nat.reduceAdd, Nat.reduceMul, Nat.reduceSub, reduceIte, reduceCtorEq, encE, encN, hw, hzt5, hzi5, hzx5, hzl5]
          refine opsWp_callD rfl rfl rfl (in_pc_ev _ _ _ _) ?_
          rintro _ _ ⟨rfl, rfl⟩
          refine opsRunN tok 3 ?_
          simp only [go_sem, Nat.reduceLT, Nat.reduceLeDiff, Nat.reduceEqDiff, Nat.reduceAdd, Nat.reduceMul, Nat.reduceSub, reduceIte, reduceCtorEq, encE, encN, hw, hzt5, hzi5, hzx5, hzl5]
          refine ops_if 36 rfl (fun hg36 => ?_) (fun hg36 => ?_)
          · skip
            refine opsRunN tok 5 ?_
            simp only [go_sem, Nat.reduceLT, Nat.reduceLeDiff, Nat.reduceEqDiff, Nat.reduceAdd, Nat.reduceMul, Nat.reduceSub, reduceIte, reduceCtorEq, encE, encN, hw, hzt5, hzi5, hzx5, hzl5]
            refine opsWp_nil ?_
            refine hK _ _ (awp_keepM [true, true, false, false, false, true, false, true, false, false, false, false, false, false, false, false, false, false, true, true, true, false, false, false, false, false, false, false, false, false, false, false, false, false, false, false, false, false, false, false, false, true] ?_)
            clear hK K
            try simp only [go_sem, Nat.reduceLT, Nat.reduceLeDiff, Nat.reduceEqDiff, Nat.reduceAdd, Nat.reduceMul, Nat.reduceSub, reduceIte, reduceCtorEq]
            refine awp_cond_t rfl ?_
            refine reg tok [false, false, false, false, true] fun K hK => ?_
            simp only [go_sem, Nat.reduceLT, Nat.reduceLeDiff, Nat.reduceEqDiff, Nat.reduceAdd, Nat.reduceMul, Nat.reduceSub, reduceIte, reduceCtorEq, encE, encN, hw, hzt5, hzi5, hzx5, hzl5]
            refine hK _ _ ?_
            clear hK K
            refine awp_ret ?_
            simp only [retQ, resAll, resOne, resAV, exists_eq_left', go_sem, Nat.reduceLT, Nat.reduceLeDiff, Nat.reduceEqDiff, Nat.reduceAdd, Nat.reduceMul, Nat.reduceSub, reduceIte, reduceCtorEq, encE, encN]
            rw [tell_int, check_badN hE0 (by unfold okN; rcases hg36 with h | h <;> simp [h])]
          · skip
            refine opsRunN tok 2 ?_
            simp only [go_sem, Nat.reduceLT, Nat.reduceLeDiff, Nat.reduceEqDiff, Nat.reduceAdd, Nat.reduceMul, Nat.reduceSub, reduceIte, reduceCtorEq, encE, encN, hw, hzt5, hzi5, hzx5, hzl5]
            refine opsWp_callD rfl rfl rfl (in_pc_ev _ _ _ _) ?_
            rintro _ _ ⟨rfl, rfl⟩
            refine opsRunN tok 2 ?_
            simp only [go_sem, Nat.reduceLT, Nat.reduceLeDiff, Nat.reduceEqDiff, Nat.reduceAdd, Nat.reduceMul, Nat.reduceSub, reduceIte, reduceCtorEq, encE, encN, hw, hzt5, hzi5, hzx5, hzl5]
            refine opsWp_nil ?_
            refine hK _ _ (awp_keepM [true, true, false, false, false, true, false, true, false, false, false, false, false, false, false, false, false, false, true, true, true, false, false, false, false, false, false, false, false, false, false, false, false, false, false, false, false, false, false, false, false, true] ?_)
            clear hK K
            try simp only [go_sem, Nat.reduceLT, Nat.reduceLeDiff, Nat.reduceEqDiff, Nat.reduceAdd, Nat.reduceMul, Nat.reduceSub, reduceIte, reduceCtorEq]
            refine awp_if rfl (fun hcc25 => ?_) (fun hcc25 => ?_)
            · skip
              refine reg tok [false, false, false, false, true] fun K hK => ?_
              simp only [go_sem, Nat.reduceLT, Nat.reduceLeDiff, Nat.reduceEqDiff, Nat.reduceAdd, Nat.reduceMul, Nat.reduceSub, reduceIte, reduceCtorEq, encE, encN, hw, hzt5, hzi5, hzx5, hzl5]
              refine hK _ _ ?_
              clear hK K
              refine awp_ret ?_
              simp only [retQ, resAll, resOne, resAV, exists_eq_left', go_sem, Nat.reduceLT, Nat.reduceLeDiff, Nat.reduceEqDiff, Nat.reduceAdd, Nat.reduceMul, Nat.reduceSub, reduceIte, reduceCtorEq, encE, encN]
              rw [tell_int, check_badN hE0 (by unfold okN; rcases hcc25 with h | h <;> simp [h])]
            · skip
              refine awp_skip ?_
              refine hZ22 _ _ ?_
              have hx : okN x = true := by simp [okN, hg28, hg36, hcc25]
              have hall : (pre ++ [x]).all okN = true := by rw [List.all_append, hI0]; simp [hx]
              have hl6 : pre.length + 1 ≤ 6 := by have := z_lt hE0; omega
              have b1 := prodS_in hall (by simpa using hl6)
              have p1 : IntKind.i64.wrap (x.t - x.v) = x.t - x.v := i64_in (by omega) (by omega)
              have p2 : IntKind.i64.wrap (x.t - x.v + 1) = x.t - x.v + 1 := i64_in (by omega) (by omega)
              have p3 : IntKind.i64.wrap (prodS pre * (x.t - x.v + 1)) = prodS (pre ++ [x]) := by rw [← prodS_snoc]; exact i64_in (by omega) (by omega)
              refine regEnd tok ?_
              simp only [go_sem, Nat.reduceLT, Nat.reduceLeDiff, Nat.reduceEqDiff, Nat.reduceAdd, Nat.reduceMul, Nat.reduceSub, reduceIte, reduceCtorEq, encE, encN, hw, hzt5, hzi5, hzx5, hzl5, p1, p2, p3]
              refine hZ21 _ _ ?_
              refine regEnd tok ?_
              simp only [go_sem, Nat.reduceLT, Nat.reduceLeDiff, Nat.reduceEqDiff, Nat.reduceAdd, Nat.reduceMul, Nat.reduceSub, reduceIte, reduceCtorEq, encE, encN, hw, hzt5, hzi5, hzx5, hzl5]
              refine ⟨_, _, _, ?_, ⟨pre ++ [x], post, rfl, rfl, rfl, ?_⟩, ?_⟩
              · simp
              · exact ⟨by simpa using hE0, hall⟩
              · exact Tells.mk' [] false 12 (by decide) (by simp) (by first | rfl | simp) (by first | rfl | simp [tell_u, tell_bool, tell_int, tell_str, tell_nilp, tell_nilm, tell_nilI, tell_nilF, tell_agg, tell_tup, tell_ifc, tell_ds, tell_dp, tell_op, tell_os, tell_mp, idxOf_nil, idxOf_cons, tellS_nil, tellS_cons, tellO_cells, tellO_map, tellO_iter, tellO_dead, store_get0, store_getS, tell_canonL, tell_canon, canonL, AV.canon, Bool.or_true, Bool.or_false, Bool.and_true, Bool.and_false, Bool.not_true, Bool.not_false, Option.some.injEq, canonL_N, canonL_E, encE, encN]) ⟨.inr (by first | exact tell_canon _ _ _ (.ds true (ns.flatMap encN) ns.length false) 12 (by simp [AV.canon, canonL, canonL_N, canonL_E, encE, encN]) | rfl), .inr (by first | exact tell_canon _ _ _ (.ds true (es.flatMap encE) es.length false) 12 (by simp [AV.canon, canonL, canonL_N, canonL_E, encE, encN]) | rfl), .inl rfl, .inl rfl, .inl rfl, .inr (by first | exact tell_canon _ _ _ (.int .i64 (prodS pre)) 12 (by simp [AV.canon, canonL, canonL_N, canonL_E, encE, encN]) | rfl), .inl rfl, .inl rfl, .inl rfl, .inl rfl, .inl rfl, .inl rfl, .inl rfl, .inl rfl, .inl rfl, .inl rfl, .inl rfl, .inl rfl, .inr (by first | exact tell_canon _ _ _ (.ds true (ns.flatMap encN) ns.length false) 12 (by simp [AV.canon, canonL, canonL_N, canonL_E, encE, encN]) | rfl), .inr (by first | exact tell_canon _ _ _ (.int .i64 ns.length) 12 (by simp [AV.canon, canonL, canonL_N, canonL_E, encE, encN]) | rfl), .inr (by first | exact tell_canon _ _ _ (.int .i64 pre.length) 12 (by simp [AV.canon, canonL, canonL_N, canonL_E, encE, encN]) | rfl), trivial⟩

theorem check_pc_ev (ns : List Nd) (es : List Ed) (hn : ns.length < 9223372036854775808) (he : es.length < 9223372036854775808) (σ : Store) : ACalls Try.prog 40 [.ds true (ns.flatMap encN) ns.length false, .ds true (es.flatMap encE) es.length false] σ fun r σ' => r = .int .i64 (checkS ns es) ∧ σ' = σ :=
  (check_pc ns es hn he).pureAt (by simp [AV.canon, canonL, canonL_N, canonL_E, encE, encN]) (by simp [AV.canon, canonL, canonL_N, canonL_E, encE, encN]) σ


end Go.Proofs.Ytplddidoobjcnaa
