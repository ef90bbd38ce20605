/- The planner: what it computes. -/
import Derived.Test.YtplddidoobjcnaaPf
set_option maxRecDepth 4000
set_option linter.unusedSimpArgs false
set_option linter.unusedVariables false
set_option linter.constructorNameAsVariable false
namespace Go.Proofs.Ytplddidoobjcnaa
open AM

theorem leads_pc (es : List Ed) (fr : List Nd) (hes : es.length < 1024) : ∀ (n : Nat) (ns : List Nd) (st : List Int) (ver : Nat) (M : List (List Int × Bool)), meas ns ≤ n → ns.length ≤ 6 → ns.all okN = true → sameF fr ns → Dead es fr M → st.length + meas ns < 1000000 →
    ACalls Try.prog 41 [.op 0 0 0, .ds true (ns.flatMap encN) ns.length false] (mem es ver M st) (LeadsR es fr ns st) := by
  intro n
  induction n with
  | zero =>
    intro ns st ver M hm hl hok hfr hM hst
    refine leads_step es fr ns st ver M hes hl hok hfr hM hst fun ms st' ver' M' h => ?_
    omega
  | succ n ih =>
    intro ns st ver M hm hl hok hfr hM hst
    exact leads_step es fr ns st ver M hes hl hok hfr hM hst fun ms st' ver' M' h h2 h3 h4 h5 h6 => ih ms st' ver' M' (by omega) h2 h3 h4 h5 h6

theorem meas_le : ∀ {ns : List Nd}, ns.all okN = true → meas ns ≤ 11 * ns.length := by
  intro ns
  induction ns with
  | nil => intro _; simp [meas]
  | cons x l ih =>
    intro h
    simp only [List.all_cons, Bool.and_eq_true] at h
    obtain ⟨h1, h2, h3⟩ := okN_spec h.1
    have := ih h.2
    simp only [meas, List.length_cons]
    omega

theorem check_ok {ns : List Nd} {es : List Ed} (h : checkS ns es = 0) : ns.length ≤ 6 ∧ es.length ≤ 64 ∧ ns.all okN = true ∧ es.all (okE ns) = true ∧ prodS ns ≤ 4096 := by
  unfold checkS at h
  split at h
  · omega
  · split at h
    · rename_i h1 h2
      simp only [Bool.and_eq_true] at h2
      split at h
      · omega
      · exact ⟨by omega, by omega, h2.1, h2.2, by omega⟩
    · omega

theorem ren_g (g : Nat → Nat) (es : List Ed) (i j ver len : Nat) : renO g (.cells 0 [.ds true (es.flatMap encE) es.length false, .mp i, .os true 1 j ver 0 len false]) = .cells 0 [.ds true (es.flatMap encE) es.length false, .mp (g i), .os true 1 (g j) ver 0 len false] := by
  simp only [renO, renL, AV.ren, renL_canon g _ (canonL_E true es)]

theorem mem_sees2 (es : List Ed) (n : Nat) : [1, 0, 2].map (fun id => ([.map [], .cells 0 [.ds true (es.flatMap encE) es.length false, .mp 0, .os true 1 2 0 0 0 false], .cells 0 []] : Store)[id]?) = (mem es 0 [] []).map fun o => some (renO (bigId [1, 0, 2] n) o) := by
  simp only [mem, List.map_cons, List.map_nil, List.getElem?_cons_zero, List.getElem?_cons_succ]
  rw [ren_g, ren_1, ren_2]; rfl

theorem mem_put2 (es : List Ed) (ver : Nat) (M : List (List Int × Bool)) (st : List Int) (n : Nat) (a b c : AObj) (x : Store) : putAll (bigId [1, 0, 2] n) [1, 0, 2] (mem es ver M st) (a :: b :: c :: x) =
    .map (encM M) :: .cells 0 [.ds true (es.flatMap encE) es.length false, .mp 0, .os true 1 2 ver 0 st.length false] :: .cells ver (st.flatMap encI) :: x := by
  simp only [mem, putAll, List.set_cons_zero, List.set_cons_succ, List.map_nil, List.append_nil]
  rw [ren_g, ren_1, ren_2]; rfl

/-- The steps, and whether there are any. -/
def planS (ns : List Nd) (es : List Ed) : List Int × Int :=
  if checkS ns es = 0 then (match path es ns with
    | some l => (l, 0)
    | none => ([], 14)) else ([], checkS ns es)

theorem plan_pc (ns : List Nd) (es : List Ed) (hn : ns.length < 9223372036854775808) (he : es.length < 9223372036854775808) : ACalls Try.prog 32 [.ds true (ns.flatMap encN) ns.length false, .ds true (es.flatMap encE) es.length false] [] (fun r _ => r = .tup [.ds true ((planS ns es).1.flatMap encI) (planS ns es).1.length false, .int .i64 (planS ns es).2]) := by
  refine acalls_pure (rs := [.tmp 4, .tmp 5]) tok Try.func32 rfl Try.ntmps32 rfl Try.call32 (by simp) ?_
  refine reg tok [true, true] fun K hK => ?_
  simp only [go_sem, Nat.reduceLT, Nat.reduceLeDiff, Nat.reduceEqDiff, Nat.reduceAdd, Nat.reduceMul, Nat.reduceSub, reduceIte, reduceCtorEq]
  refine hK _ _ ?_
  clear hK K
  refine awp_seq_k fun Z1 hZ1 => ?_
  refine awp_seq_k fun K hK => ?_
  refine awp_region ?_
  refine opsRunN tok 2 ?_
  simp only [go_sem, Nat.reduceLT, Nat.reduceLeDiff, Nat.reduceEqDiff, Nat.reduceAdd, Nat.reduceMul, Nat.reduceSub, reduceIte, reduceCtorEq]
  refine opsWp_callD rfl rfl rfl (check_pc_ev _ _ (by first | assumption | omega | (simp; done)) (by first | assumption | omega | (simp; done)) _) ?_
  rintro _ _ ⟨rfl, rfl⟩
  refine opsRunN tok 1 ?_
  simp only [go_sem, Nat.reduceLT, Nat.reduceLeDiff, Nat.reduceEqDiff, Nat.reduceAdd, Nat.reduceMul, Nat.reduceSub, reduceIte, reduceCtorEq]
  refine opsWp_nil ?_
  refine hK _ _ (awp_keepM [true, true, false, false, false, false, true] ?_)
  clear hK K
  try simp only [go_sem, Nat.reduceLT, Nat.reduceLeDiff, Nat.reduceEqDiff, Nat.reduceAdd, Nat.reduceMul, Nat.reduceSub, reduceIte, reduceCtorEq]
  refine reg tok [true, true, false, false, false, false, true, false, false, false, false, false, true] fun K hK => ?_
  simp only [go_sem, Nat.reduceLT, Nat.reduceLeDiff, Nat.reduceEqDiff, Nat.reduceAdd, Nat.reduceMul, Nat.reduceSub, reduceIte, reduceCtorEq]
  refine hK _ _ ?_
  clear hK K
  refine awp_if rfl (fun hcc2 => ?_) (fun hcc2 => ?_)
  · skip
    refine reg tok [false, false, false, false, true, true] fun K hK => ?_
    simp only [go_sem, Nat.reduceLT, Nat.reduceLeDiff, Nat.reduceEqDiff, Nat.reduceAdd, Nat.reduceMul, Nat.reduceSub, reduceIte, reduceCtorEq]
    refine hK _ _ ?_
    clear hK K
    refine awp_ret ?_
    simp only [retQ, resAll, resOne, resAV, exists_eq_left', go_sem, Nat.reduceLT, Nat.reduceLeDiff, Nat.reduceEqDiff, Nat.reduceAdd, Nat.reduceMul, Nat.reduceSub, reduceIte, reduceCtorEq]
    have h : checkS ns es ≠ 0 := hcc2
    simp [tell_tup, tell_ds, tell_int, planS, h]
  · skip
    refine awp_skip ?_
    refine hZ1 _ _ ?_
    have hck : checkS ns es = 0 := by simpa using hcc2
    obtain ⟨hl, hel, hok, _, _⟩ := check_ok hck
    refine reg tok [true, false, false, false, false, false, false, true] fun K hK => ?_
    simp only [go_sem, Nat.reduceLT, Nat.reduceLeDiff, Nat.reduceEqDiff, Nat.reduceAdd, Nat.reduceMul, Nat.reduceSub, reduceIte, reduceCtorEq]
    refine hK _ _ ?_
    clear hK K
    refine awp_seq_k fun Z3 hZ3 => ?_
    refine awp_virtIn (id := 1) (i := 2) (by exact Store.at_tl.trans (Store.at_hd.trans (if_pos rfl))) (by simp) rfl 1 ?_
    simp only [go_sem]
    have harg : renL (bigId [1, 0, 2] 3) [.op 0 0 0, .ds true (ns.flatMap encN) ns.length false] = [.op 1 0 0, .ds true (ns.flatMap encN) ns.length false] := by
      simp only [renL, AV.ren, renL_canon _ _ (canonL_N true ns)]; rfl
    have hx := leads_pc es ns (by omega) (meas ns) ns [] 0 [] (Nat.le_refl _) hl hok rfl (Dead.nil es ns) (by have := meas_le hok; simp; omega)
    refine awp_seq_k fun K hK => ?_
    refine awp_region ?_
    refine opsRunN tok 2 ?_
    simp only [go_sem, Nat.reduceLT, Nat.reduceLeDiff, Nat.reduceEqDiff, Nat.reduceAdd, Nat.reduceMul, Nat.reduceSub, reduceIte, reduceCtorEq]
    refine opsWp_callD rfl rfl rfl (hx.embed [1, 0, 2] (by decide) (by simp) (mem_sees2 es _) harg) ?_
    rintro _ _ ⟨_, _, ⟨M', ver', rfl, rfl, hD'⟩, rfl, rfl⟩
    simp only [AV.ren, mem_put2]
    refine opsRunN tok 1 ?_
    simp only [go_sem, Nat.reduceLT, Nat.reduceLeDiff, Nat.reduceEqDiff, Nat.reduceAdd, Nat.reduceMul, Nat.reduceSub, reduceIte, reduceCtorEq]
    refine opsWp_nil ?_
    refine hK _ _ (awp_keepM [false, false, false, false, false, false, false, true, false, false, false, false, false, false, false, false, false, false, false, false, false, true] ?_)
    clear hK K
    try simp only [go_sem, Nat.reduceLT, Nat.reduceLeDiff, Nat.reduceEqDiff, Nat.reduceAdd, Nat.reduceMul, Nat.reduceSub, reduceIte, reduceCtorEq]
    refine awp_if rfl (fun hcc4 => ?_) (fun hcc4 => ?_)
    · skip
      refine reg tok [false, false, false, false, true, true] fun K hK => ?_
      simp only [go_sem, Nat.reduceLT, Nat.reduceLeDiff, Nat.reduceEqDiff, Nat.reduceAdd, Nat.reduceMul, Nat.reduceSub, reduceIte, reduceCtorEq]
      refine hK _ _ ?_
      clear hK K
      refine awp_ret ?_
      simp only [retQ, resAll, resOne, resAV, exists_eq_left', go_sem, Nat.reduceLT, Nat.reduceLeDiff, Nat.reduceEqDiff, Nat.reduceAdd, Nat.reduceMul, Nat.reduceSub, reduceIte, reduceCtorEq]
      have hp : path es ns = none := by simpa using hcc4
      have h : planS ns es = ([], 14) := by rw [planS, if_pos hck, hp]
      simp [tell_tup, tell_ds, tell_int, h]
    · skip
      refine awp_skip ?_
      refine hZ3 _ _ ?_
      refine reg tok [false, false, false, false, true, true] fun K hK => ?_
      simp only [go_sem, Nat.reduceLT, Nat.reduceLeDiff, Nat.reduceEqDiff, Nat.reduceAdd, Nat.reduceMul, Nat.reduceSub, reduceIte, reduceCtorEq]
      refine hK _ _ ?_
      clear hK K
      refine awp_ret ?_
      simp only [retQ, resAll, resOne, resAV, exists_eq_left', go_sem, Nat.reduceLT, Nat.reduceLeDiff, Nat.reduceEqDiff, Nat.reduceAdd, Nat.reduceMul, Nat.reduceSub, reduceIte, reduceCtorEq]
      obtain ⟨l, hl'⟩ := Option.isSome_iff_exists.1 (show (path es ns).isSome = true by simpa using hcc4)
      have h : planS ns es = (l, 0) := by rw [planS, if_pos hck, hl']
      rw [h, hl', tell_tup]
      simp only [List.map_cons, List.map_nil, tell_int, Option.getD_some]
      rw [tell_enc (enc := encI) (sz := 1) (l := l) (fun _ => rfl) rfl (Store.at_tl.trans (Store.at_tl.trans (Store.at_hd.trans (if_pos rfl)))) rfl (canonL_encI _ _)]

theorem plan_pc_ev (ns : List Nd) (es : List Ed) (hn : ns.length < 9223372036854775808) (he : es.length < 9223372036854775808) (σ : Store) : ACalls Try.prog 32 [.ds true (ns.flatMap encN) ns.length false, .ds true (es.flatMap encE) es.length false] σ fun r σ' => r = .tup [.ds true ((planS ns es).1.flatMap encI) (planS ns es).1.length false, .int .i64 (planS ns es).2] ∧ σ' = σ :=
  (plan_pc ns es hn he).pureAt (by simp [AV.canon, canonL, canonL_N, canonL_E, canonL_encI]) (by simp [AV.canon, canonL, canonL_N, canonL_E, canonL_encI]) σ


end Go.Proofs.Ytplddidoobjcnaa
