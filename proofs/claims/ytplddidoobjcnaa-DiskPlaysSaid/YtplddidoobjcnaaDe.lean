/- New disks and images, cutting back, told on the abstract side. -/
import Derived.Test.YtplddidoobjcnaaDd
set_option linter.unusedSimpArgs false
set_option linter.unusedVariables false
set_option linter.constructorNameAsVariable false
namespace Go.Proofs.Ytplddidoobjcnaa
open AM

/-! ### cutting back -/

def D.trim (d : D) (n : Int) : D × Int :=
  if d.dead then (d, 17) else if n < 0 ∨ (d.b.length : Int) < n then (d, 1) else ({ d with b := d.b.take n.toNat }, 0)

theorem D.Ok.trim {d : D} (h : d.Ok) (n : Int) : (d.trim n).1.Ok := by
  obtain ⟨h1, h2, h3, h4⟩ := h
  unfold D.trim
  split
  · exact ⟨h1, h2, h3, h4⟩
  split
  · exact ⟨h1, h2, h3, h4⟩
  · refine ⟨fun e => ?_, h2, ?_, h4⟩
    · simp only at e; simp [h1 e]
    · simp only [List.length_take]; omega

theorem take_setRun (xs : List AV) : ∀ (cs : List AV) (o : Nat), (setRun cs o xs).take o = cs.take o := by
  induction xs with
  | nil => intro cs o; rfl
  | cons x xs ih =>
    intro cs o
    simp only [setRun]
    have := ih (cs.set o x) (o + 1)
    have h2 := congrArg (List.take o) this
    rw [List.take_take, List.take_take, Nat.min_eq_left (by omega)] at h2
    rw [h2]
    apply List.ext_getElem?
    intro i
    simp only [List.getElem?_take]
    split
    · rw [List.getElem?_set_ne (by omega)]
    · rfl

theorem clear27 {σ : Store} {ida ver : Nat} {b : List UInt8} (h : Store.at σ ida ver = some (bys b)) (nl : Bool) {n : Nat} (hn : n ≤ b.length) (m : Nat) (hm : m = b.length - n) (o : Nat) (ho : o = n) (t : Bool) :
    ∃ X, X.take n = bys (b.take n) ∧ X.length = b.length ∧ evClear tab 27 (.os nl 1 ida ver o m t) σ = some (.tup [], σ.set ida (.cells ver X)) := by
  subst hm; subst ho
  by_cases h0 : b.length - o = 0
  · have : o = b.length := by omega
    subst this
    refine ⟨bys b, bys_take _ _, length_bys b, ?_⟩
    simp only [evClear, tab_27, tab_5, putInto, h0]
    simp [set_same h, AV.okc, AV.cells]
  · refine ⟨setRun (bys b) o (zeroRun [AV.int .u8 0] ((b.length - o) * 1)), ?_, ?_, ?_⟩
    · rw [take_setRun, bys_take]
    · rw [length_setRun, length_bys]
    · have h1 : (zeroRun [AV.int .u8 0] ((b.length - o) * 1)).length = b.length - o := by simp [zeroRun]
      have h2 : (zeroRun [AV.int .u8 0] ((b.length - o) * 1)).all AV.one = true := by
        simp only [List.all_eq_true, zeroRun, List.mem_map]
        rintro x ⟨i, _, rfl⟩
        simp [gc, Nat.mod_one, AV.one]
      simp only [evClear, tab_27, tab_5, putInto, h]
      simp only [AV.okc, AV.cells, List.length_cons, List.length_nil, h1, h2, length_bys]
      simp [h0, show o + (b.length - o) = b.length by omega]

theorem trim_ev {σ : Store} {id ida ver : Nat} {d : D} (h : Dk σ id ida ver d) (n : Int) :
    ACalls Try.prog 24 [.op id 0 0, .int .i64 n] σ fun r σ' => r = .int .i64 (d.trim n).2 ∧ σ' = dput σ id ida ver (d.trim n).1 := by
  have h1 := h.box
  have h2 := h.bytes
  have hlt := Store.at_lt h1
  have hlt2 := Store.at_lt h2
  have hne := h.ne
  have hne' := h.ne.symm
  obtain ⟨k1, k2, k3, k4⟩ := h.ok
  -- what the code leaves: the bytes cut away lie there still
  have main : ACalls Try.prog 24 [.op id 0 0, .int .i64 n] σ fun r σ' => ∃ X, X.take (d.trim n).1.b.length = bys (d.trim n).1.b ∧ r = .int .i64 (d.trim n).2 ∧ σ' = (σ.set ida (.cells ver X)).set id (.cells 0 (dcells ida ver (d.trim n).1)) := by
    have same : (σ.set ida (.cells ver (bys d.b))).set id (.cells 0 (dcells ida ver d)) = σ := by rw [set_same h2, set_same h1]
    simp only [dcells] at h1
    refine acalls_body (rs := [.tmp 4]) tok Try.func24 rfl Try.ntmps24 rfl Try.call24 (by simp) ?_
    refine reg tok 5 fun K hK => ?_
    simp only [Run_some, keepFrom, evOps, guardA, isCall, dstOk, evOp, ev, updO, upd, fr, constAV, constCell, pureR, cond_true, cond_false, decide_true, decide_false, Nat.reduceLT, Nat.reduceLeDiff, Nat.reduceEqDiff, Nat.reduceAdd, Nat.reduceMul, Nat.reduceSub, Nat.zero_add, Nat.add_zero, if_true, if_false, reduceIte, reduceCtorEq, List.getD_eq_getElem?_getD, List.getElem?_cons_zero, List.getElem?_cons_succ, List.getElem?_nil, Option.getD_some, Option.getD_none, Option.bind_some, List.getElem?_toArray, true_and, and_true, evBin, evInt, evNil, evPick, evUn, thenQ_normal, thenQ_ret, thenQ_exit, blockQ_normal, blockQ_ret, blockQ_exit, AV.bool.injEq, exists_eq_left', List.map_cons, List.map_nil, Option.map_some, Option.map_none, List.toList_toArray, Bool.true_eq_false, Bool.false_eq_true, Bool.not_true, Bool.not_false, beq_self_eq_true, beq_tr, beq_fa, Int.reduceEq, Int.reduceLT, Int.reduceLE, Int.reduceAdd, evEq, sized, evBuiltin, ne_eq, not_true_eq_false, not_false_eq_true]
    refine hK _ _ ?_
    clear hK K
    refine awp_seq_k fun Z hZ => awp_block ?_
    refine regIf tok 6 fun A B hA hB => ?_
    simp only [Run_some, keepFrom, evOps, guardA, isCall, dstOk, evOp, ev, updO, upd, fr, constAV, constCell, pureR, cond_true, cond_false, decide_true, decide_false, Nat.reduceLT, Nat.reduceLeDiff, Nat.reduceEqDiff, Nat.reduceAdd, Nat.reduceMul, Nat.reduceSub, Nat.zero_add, Nat.add_zero, if_true, if_false, reduceIte, reduceCtorEq, List.getD_eq_getElem?_getD, List.getElem?_cons_zero, List.getElem?_cons_succ, List.getElem?_nil, Option.getD_some, Option.getD_none, Option.bind_some, List.getElem?_toArray, true_and, and_true, evBin, evInt, evNil, evPick, evUn, thenQ_normal, thenQ_ret, thenQ_exit, blockQ_normal, blockQ_ret, blockQ_exit, AV.bool.injEq, exists_eq_left', List.map_cons, List.map_nil, Option.map_some, Option.map_none, List.toList_toArray, Bool.true_eq_false, Bool.false_eq_true, Bool.not_true, Bool.not_false, beq_self_eq_true, beq_tr, beq_fa, Int.reduceEq, Int.reduceLT, Int.reduceLE, Int.reduceAdd, evEq, sized, evBuiltin, ne_eq, not_true_eq_false, not_false_eq_true, TypeDesc.isAgg, TI.agg, Store.at_ne, Store.at_hd, Store.at_new1, evLoad, evRd, evStore, evFieldAddr, evIndexAddr, evBox, len27_os, len27_ds, len9, evMax2, evMin2, evFold, foldO, setRun, AV.okc, AV.one, AV.cells, gc, List.length_cons, List.length_nil, List.set_cons_zero, List.set_cons_succ, List.all_cons, List.all_nil, Bool.and_true, Bool.true_and, and_self, Option.isSome_some, tab_27, tab_68, tab_3, tab_4, tab_5, tab_9, tab_23, tab_28, tab_41, tab_70, tab_34, tab_22, tab_40, tab_44, Store.at_put, Store.at_push, Store.at_nw, List.length_set, List.length_append, List.getElem_toArray, List.size_toArray, List.getElem_cons_zero, List.getElem_cons_succ, h1]
    refine ⟨fun hc => hA _ _ ?_, fun hc => hB _ _ ?_⟩
    · refine reg tok 5 fun K hK => ?_
      simp only [Run_some, keepFrom, evOps, guardA, isCall, dstOk, evOp, ev, updO, upd, fr, constAV, constCell, pureR, cond_true, cond_false, decide_true, decide_false, Nat.reduceLT, Nat.reduceLeDiff, Nat.reduceEqDiff, Nat.reduceAdd, Nat.reduceMul, Nat.reduceSub, Nat.zero_add, Nat.add_zero, if_true, if_false, reduceIte, reduceCtorEq, List.getD_eq_getElem?_getD, List.getElem?_cons_zero, List.getElem?_cons_succ, List.getElem?_nil, Option.getD_some, Option.getD_none, Option.bind_some, List.getElem?_toArray, true_and, and_true, evBin, evInt, evNil, evPick, evUn, thenQ_normal, thenQ_ret, thenQ_exit, blockQ_normal, blockQ_ret, blockQ_exit, AV.bool.injEq, exists_eq_left', List.map_cons, List.map_nil, Option.map_some, Option.map_none, List.toList_toArray, Bool.true_eq_false, Bool.false_eq_true, Bool.not_true, Bool.not_false, beq_self_eq_true, beq_tr, beq_fa, Int.reduceEq, Int.reduceLT, Int.reduceLE, Int.reduceAdd, evEq, sized, evBuiltin, ne_eq, not_true_eq_false, not_false_eq_true]
      refine hK _ _ ?_
      clear hK K
      refine awp_ret ?_
      simp only [retQ, resAll, resOne, resAV, Option.some.injEq, Run_some, keepFrom, evOps, guardA, isCall, dstOk, evOp, ev, updO, upd, fr, constAV, constCell, pureR, cond_true, cond_false, decide_true, decide_false, Nat.reduceLT, Nat.reduceLeDiff, Nat.reduceEqDiff, Nat.reduceAdd, Nat.reduceMul, Nat.reduceSub, Nat.zero_add, Nat.add_zero, if_true, if_false, reduceIte, reduceCtorEq, List.getD_eq_getElem?_getD, List.getElem?_cons_zero, List.getElem?_cons_succ, List.getElem?_nil, Option.getD_some, Option.getD_none, Option.bind_some, List.getElem?_toArray, true_and, and_true, evBin, evInt, evNil, evPick, evUn, thenQ_normal, thenQ_ret, thenQ_exit, blockQ_normal, blockQ_ret, blockQ_exit, AV.bool.injEq, exists_eq_left', List.map_cons, List.map_nil, Option.map_some, Option.map_none, List.toList_toArray, Bool.true_eq_false, Bool.false_eq_true, Bool.not_true, Bool.not_false, beq_self_eq_true, beq_tr, beq_fa, Int.reduceEq, Int.reduceLT, Int.reduceLE, Int.reduceAdd, evEq, sized, evBuiltin, ne_eq, not_true_eq_false, not_false_eq_true]
      refine ⟨bys d.b, ?_, ?_, ?_⟩ <;> simp only [D.trim, hc, if_true]
      · rw [bys_take, List.take_length]
      · exact same.symm
    clear hA hB A B
    by_cases hn : n < 0
    · refine regIf tok 5 fun A B hA hB => ?_
      simp only [Run_some, keepFrom, evOps, guardA, isCall, dstOk, evOp, ev, updO, upd, fr, constAV, constCell, pureR, cond_true, cond_false, decide_true, decide_false, Nat.reduceLT, Nat.reduceLeDiff, Nat.reduceEqDiff, Nat.reduceAdd, Nat.reduceMul, Nat.reduceSub, Nat.zero_add, Nat.add_zero, if_true, if_false, reduceIte, reduceCtorEq, List.getD_eq_getElem?_getD, List.getElem?_cons_zero, List.getElem?_cons_succ, List.getElem?_nil, Option.getD_some, Option.getD_none, Option.bind_some, List.getElem?_toArray, true_and, and_true, evBin, evInt, evNil, evPick, evUn, thenQ_normal, thenQ_ret, thenQ_exit, blockQ_normal, blockQ_ret, blockQ_exit, AV.bool.injEq, exists_eq_left', List.map_cons, List.map_nil, Option.map_some, Option.map_none, List.toList_toArray, Bool.true_eq_false, Bool.false_eq_true, Bool.not_true, Bool.not_false, beq_self_eq_true, beq_tr, beq_fa, Int.reduceEq, Int.reduceLT, Int.reduceLE, Int.reduceAdd, evEq, sized, evBuiltin, ne_eq, not_true_eq_false, not_false_eq_true, TypeDesc.isAgg, TI.agg, Store.at_ne, Store.at_hd, Store.at_new1, evLoad, evRd, evStore, evFieldAddr, evIndexAddr, evBox, len27_os, len27_ds, len9, evMax2, evMin2, evFold, foldO, setRun, AV.okc, AV.one, AV.cells, gc, List.length_cons, List.length_nil, List.set_cons_zero, List.set_cons_succ, List.all_cons, List.all_nil, Bool.and_true, Bool.true_and, and_self, Option.isSome_some, tab_27, tab_68, tab_3, tab_4, tab_5, tab_9, tab_23, tab_28, tab_41, tab_70, tab_34, tab_22, tab_40, tab_44, Store.at_put, Store.at_push, Store.at_nw, List.length_set, List.length_append, List.getElem_toArray, List.size_toArray, List.getElem_cons_zero, List.getElem_cons_succ, h1, hn]
      refine ⟨fun _ => hA _ _ ?_, fun e => e.elim⟩
      refine reg tok 5 fun K hK => ?_
      simp only [Run_some, keepFrom, evOps, guardA, isCall, dstOk, evOp, ev, updO, upd, fr, constAV, constCell, pureR, cond_true, cond_false, decide_true, decide_false, Nat.reduceLT, Nat.reduceLeDiff, Nat.reduceEqDiff, Nat.reduceAdd, Nat.reduceMul, Nat.reduceSub, Nat.zero_add, Nat.add_zero, if_true, if_false, reduceIte, reduceCtorEq, List.getD_eq_getElem?_getD, List.getElem?_cons_zero, List.getElem?_cons_succ, List.getElem?_nil, Option.getD_some, Option.getD_none, Option.bind_some, List.getElem?_toArray, true_and, and_true, evBin, evInt, evNil, evPick, evUn, thenQ_normal, thenQ_ret, thenQ_exit, blockQ_normal, blockQ_ret, blockQ_exit, AV.bool.injEq, exists_eq_left', List.map_cons, List.map_nil, Option.map_some, Option.map_none, List.toList_toArray, Bool.true_eq_false, Bool.false_eq_true, Bool.not_true, Bool.not_false, beq_self_eq_true, beq_tr, beq_fa, Int.reduceEq, Int.reduceLT, Int.reduceLE, Int.reduceAdd, evEq, sized, evBuiltin, ne_eq, not_true_eq_false, not_false_eq_true]
      refine hK _ _ ?_
      clear hK K
      refine awp_ret ?_
      simp only [retQ, resAll, resOne, resAV, Option.some.injEq, Run_some, keepFrom, evOps, guardA, isCall, dstOk, evOp, ev, updO, upd, fr, constAV, constCell, pureR, cond_true, cond_false, decide_true, decide_false, Nat.reduceLT, Nat.reduceLeDiff, Nat.reduceEqDiff, Nat.reduceAdd, Nat.reduceMul, Nat.reduceSub, Nat.zero_add, Nat.add_zero, if_true, if_false, reduceIte, reduceCtorEq, List.getD_eq_getElem?_getD, List.getElem?_cons_zero, List.getElem?_cons_succ, List.getElem?_nil, Option.getD_some, Option.getD_none, Option.bind_some, List.getElem?_toArray, true_and, and_true, evBin, evInt, evNil, evPick, evUn, thenQ_normal, thenQ_ret, thenQ_exit, blockQ_normal, blockQ_ret, blockQ_exit, AV.bool.injEq, exists_eq_left', List.map_cons, List.map_nil, Option.map_some, Option.map_none, List.toList_toArray, Bool.true_eq_false, Bool.false_eq_true, Bool.not_true, Bool.not_false, beq_self_eq_true, beq_tr, beq_fa, Int.reduceEq, Int.reduceLT, Int.reduceLE, Int.reduceAdd, evEq, sized, evBuiltin, ne_eq, not_true_eq_false, not_false_eq_true]
      refine ⟨bys d.b, ?_, ?_, ?_⟩ <;> simp only [D.trim, hc, hn, true_or, if_true, Bool.false_eq_true, if_false]
      · rw [bys_take, List.take_length]
      · exact same.symm
    refine regIf tok 5 fun A B hA hB => ?_
    simp only [Run_some, keepFrom, evOps, guardA, isCall, dstOk, evOp, ev, updO, upd, fr, constAV, constCell, pureR, cond_true, cond_false, decide_true, decide_false, Nat.reduceLT, Nat.reduceLeDiff, Nat.reduceEqDiff, Nat.reduceAdd, Nat.reduceMul, Nat.reduceSub, Nat.zero_add, Nat.add_zero, if_true, if_false, reduceIte, reduceCtorEq, List.getD_eq_getElem?_getD, List.getElem?_cons_zero, List.getElem?_cons_succ, List.getElem?_nil, Option.getD_some, Option.getD_none, Option.bind_some, List.getElem?_toArray, true_and, and_true, evBin, evInt, evNil, evPick, evUn, thenQ_normal, thenQ_ret, thenQ_exit, blockQ_normal, blockQ_ret, blockQ_exit, AV.bool.injEq, exists_eq_left', List.map_cons, List.map_nil, Option.map_some, Option.map_none, List.toList_toArray, Bool.true_eq_false, Bool.false_eq_true, Bool.not_true, Bool.not_false, beq_self_eq_true, beq_tr, beq_fa, Int.reduceEq, Int.reduceLT, Int.reduceLE, Int.reduceAdd, evEq, sized, evBuiltin, ne_eq, not_true_eq_false, not_false_eq_true, TypeDesc.isAgg, TI.agg, Store.at_ne, Store.at_hd, Store.at_new1, evLoad, evRd, evStore, evFieldAddr, evIndexAddr, evBox, len27_os, len27_ds, len9, evMax2, evMin2, evFold, foldO, setRun, AV.okc, AV.one, AV.cells, gc, List.length_cons, List.length_nil, List.set_cons_zero, List.set_cons_succ, List.all_cons, List.all_nil, Bool.and_true, Bool.true_and, and_self, Option.isSome_some, tab_27, tab_68, tab_3, tab_4, tab_5, tab_9, tab_23, tab_28, tab_41, tab_70, tab_34, tab_22, tab_40, tab_44, Store.at_put, Store.at_push, Store.at_nw, List.length_set, List.length_append, List.getElem_toArray, List.size_toArray, List.getElem_cons_zero, List.getElem_cons_succ, h1, hn]
    refine ⟨fun hc2 => hA _ _ ?_, fun hc2 => hB _ _ ?_⟩
    · simp only [decide_eq_true_eq] at hc2
      refine reg tok 5 fun K hK => ?_
      simp only [Run_some, keepFrom, evOps, guardA, isCall, dstOk, evOp, ev, updO, upd, fr, constAV, constCell, pureR, cond_true, cond_false, decide_true, decide_false, Nat.reduceLT, Nat.reduceLeDiff, Nat.reduceEqDiff, Nat.reduceAdd, Nat.reduceMul, Nat.reduceSub, Nat.zero_add, Nat.add_zero, if_true, if_false, reduceIte, reduceCtorEq, List.getD_eq_getElem?_getD, List.getElem?_cons_zero, List.getElem?_cons_succ, List.getElem?_nil, Option.getD_some, Option.getD_none, Option.bind_some, List.getElem?_toArray, true_and, and_true, evBin, evInt, evNil, evPick, evUn, thenQ_normal, thenQ_ret, thenQ_exit, blockQ_normal, blockQ_ret, blockQ_exit, AV.bool.injEq, exists_eq_left', List.map_cons, List.map_nil, Option.map_some, Option.map_none, List.toList_toArray, Bool.true_eq_false, Bool.false_eq_true, Bool.not_true, Bool.not_false, beq_self_eq_true, beq_tr, beq_fa, Int.reduceEq, Int.reduceLT, Int.reduceLE, Int.reduceAdd, evEq, sized, evBuiltin, ne_eq, not_true_eq_false, not_false_eq_true]
      refine hK _ _ ?_
      clear hK K
      refine awp_ret ?_
      simp only [retQ, resAll, resOne, resAV, Option.some.injEq, Run_some, keepFrom, evOps, guardA, isCall, dstOk, evOp, ev, updO, upd, fr, constAV, constCell, pureR, cond_true, cond_false, decide_true, decide_false, Nat.reduceLT, Nat.reduceLeDiff, Nat.reduceEqDiff, Nat.reduceAdd, Nat.reduceMul, Nat.reduceSub, Nat.zero_add, Nat.add_zero, if_true, if_false, reduceIte, reduceCtorEq, List.getD_eq_getElem?_getD, List.getElem?_cons_zero, List.getElem?_cons_succ, List.getElem?_nil, Option.getD_some, Option.getD_none, Option.bind_some, List.getElem?_toArray, true_and, and_true, evBin, evInt, evNil, evPick, evUn, thenQ_normal, thenQ_ret, thenQ_exit, blockQ_normal, blockQ_ret, blockQ_exit, AV.bool.injEq, exists_eq_left', List.map_cons, List.map_nil, Option.map_some, Option.map_none, List.toList_toArray, Bool.true_eq_false, Bool.false_eq_true, Bool.not_true, Bool.not_false, beq_self_eq_true, beq_tr, beq_fa, Int.reduceEq, Int.reduceLT, Int.reduceLE, Int.reduceAdd, evEq, sized, evBuiltin, ne_eq, not_true_eq_false, not_false_eq_true]
      refine ⟨bys d.b, ?_, ?_, ?_⟩ <;> simp only [D.trim, hc, hc2, or_true, if_true, Bool.false_eq_true, if_false]
      · rw [bys_take, List.take_length]
      · exact same.symm
    simp only [decide_eq_false_iff_not] at hc2
    refine awp_skip ?_
    simp only [Run_some, keepFrom, evOps, guardA, isCall, dstOk, evOp, ev, updO, upd, fr, constAV, constCell, pureR, cond_true, cond_false, decide_true, decide_false, Nat.reduceLT, Nat.reduceLeDiff, Nat.reduceEqDiff, Nat.reduceAdd, Nat.reduceMul, Nat.reduceSub, Nat.zero_add, Nat.add_zero, if_true, if_false, reduceIte, reduceCtorEq, List.getD_eq_getElem?_getD, List.getElem?_cons_zero, List.getElem?_cons_succ, List.getElem?_nil, Option.getD_some, Option.getD_none, Option.bind_some, List.getElem?_toArray, true_and, and_true, evBin, evInt, evNil, evPick, evUn, thenQ_normal, thenQ_ret, thenQ_exit, blockQ_normal, blockQ_ret, blockQ_exit, AV.bool.injEq, exists_eq_left', List.map_cons, List.map_nil, Option.map_some, Option.map_none, List.toList_toArray, Bool.true_eq_false, Bool.false_eq_true, Bool.not_true, Bool.not_false, beq_self_eq_true, beq_tr, beq_fa, Int.reduceEq, Int.reduceLT, Int.reduceLE, Int.reduceAdd, evEq, sized, evBuiltin, ne_eq, not_true_eq_false, not_false_eq_true]
    refine hZ _ _ ?_
    clear hA hB A B hZ Z
    have hs1 : evSlice tab 27 (.os d.nl 1 ida ver 0 d.b.length false) (some (.int .i64 n)) none none = some (.os d.nl 1 ida ver n.toNat (d.b.length - n.toNat) false) := by
      simp [evSlice, tab_27, tab_5, optI, show 0 ≤ n by omega, show n ≤ d.b.length by omega]
    have hs2 : evSlice tab 27 (.os d.nl 1 ida ver 0 d.b.length false) none (some (.int .i64 n)) none = some (.os d.nl 1 ida ver 0 n.toNat false) := by
      simp [evSlice, tab_27, tab_5, optI, show 0 ≤ n by omega, show n ≤ d.b.length by omega]
    obtain ⟨X, hX1, hX2, hX3⟩ := clear27 h2 d.nl (n := n.toNat) (by omega) (d.b.length - n.toNat) rfl n.toNat rfl false
    refine reg tok 5 fun K hK => ?_
    simp only [Run_some, keepFrom, evOps, guardA, isCall, dstOk, evOp, ev, updO, upd, fr, constAV, constCell, pureR, cond_true, cond_false, decide_true, decide_false, Nat.reduceLT, Nat.reduceLeDiff, Nat.reduceEqDiff, Nat.reduceAdd, Nat.reduceMul, Nat.reduceSub, Nat.zero_add, Nat.add_zero, if_true, if_false, reduceIte, reduceCtorEq, List.getD_eq_getElem?_getD, List.getElem?_cons_zero, List.getElem?_cons_succ, List.getElem?_nil, Option.getD_some, Option.getD_none, Option.bind_some, List.getElem?_toArray, true_and, and_true, evBin, evInt, evNil, evPick, evUn, thenQ_normal, thenQ_ret, thenQ_exit, blockQ_normal, blockQ_ret, blockQ_exit, AV.bool.injEq, exists_eq_left', List.map_cons, List.map_nil, Option.map_some, Option.map_none, List.toList_toArray, Bool.true_eq_false, Bool.false_eq_true, Bool.not_true, Bool.not_false, beq_self_eq_true, beq_tr, beq_fa, Int.reduceEq, Int.reduceLT, Int.reduceLE, Int.reduceAdd, evEq, sized, evBuiltin, ne_eq, not_true_eq_false, not_false_eq_true, TypeDesc.isAgg, TI.agg, Store.at_ne, Store.at_hd, Store.at_new1, evLoad, evRd, evStore, evFieldAddr, evIndexAddr, evBox, len27_os, len27_ds, len9, evMax2, evMin2, evFold, foldO, setRun, AV.okc, AV.one, AV.cells, gc, List.length_cons, List.length_nil, List.set_cons_zero, List.set_cons_succ, List.all_cons, List.all_nil, Bool.and_true, Bool.true_and, and_self, Option.isSome_some, tab_27, tab_68, tab_3, tab_4, tab_5, tab_9, tab_23, tab_28, tab_41, tab_70, tab_34, tab_22, tab_40, tab_44, Store.at_put, Store.at_push, Store.at_nw, List.length_set, List.length_append, List.getElem_toArray, List.size_toArray, List.getElem_cons_zero, List.getElem_cons_succ, h1, hs1, hX3]
    refine hK _ _ ?_
    clear hK K
    refine reg tok 5 fun K hK => ?_
    simp only [Run_some, keepFrom, evOps, guardA, isCall, dstOk, evOp, ev, updO, upd, fr, constAV, constCell, pureR, cond_true, cond_false, decide_true, decide_false, Nat.reduceLT, Nat.reduceLeDiff, Nat.reduceEqDiff, Nat.reduceAdd, Nat.reduceMul, Nat.reduceSub, Nat.zero_add, Nat.add_zero, if_true, if_false, reduceIte, reduceCtorEq, List.getD_eq_getElem?_getD, List.getElem?_cons_zero, List.getElem?_cons_succ, List.getElem?_nil, Option.getD_some, Option.getD_none, Option.bind_some, List.getElem?_toArray, true_and, and_true, evBin, evInt, evNil, evPick, evUn, thenQ_normal, thenQ_ret, thenQ_exit, blockQ_normal, blockQ_ret, blockQ_exit, AV.bool.injEq, exists_eq_left', List.map_cons, List.map_nil, Option.map_some, Option.map_none, List.toList_toArray, Bool.true_eq_false, Bool.false_eq_true, Bool.not_true, Bool.not_false, beq_self_eq_true, beq_tr, beq_fa, Int.reduceEq, Int.reduceLT, Int.reduceLE, Int.reduceAdd, evEq, sized, evBuiltin, ne_eq, not_true_eq_false, not_false_eq_true, TypeDesc.isAgg, TI.agg, Store.at_ne, Store.at_hd, Store.at_new1, evLoad, evRd, evStore, evFieldAddr, evIndexAddr, evBox, len27_os, len27_ds, len9, evMax2, evMin2, evFold, foldO, setRun, AV.okc, AV.one, AV.cells, gc, List.length_cons, List.length_nil, List.set_cons_zero, List.set_cons_succ, List.all_cons, List.all_nil, Bool.and_true, Bool.true_and, and_self, Option.isSome_some, tab_27, tab_68, tab_3, tab_4, tab_5, tab_9, tab_23, tab_28, tab_41, tab_70, tab_34, tab_22, tab_40, tab_44, Store.at_put, Store.at_push, Store.at_nw, List.length_set, List.length_append, List.getElem_toArray, List.size_toArray, List.getElem_cons_zero, List.getElem_cons_succ, h1, hne, hne', hlt, hlt2, hs2]
    refine hK _ _ ?_
    clear hK K
    refine reg tok 5 fun K hK => ?_
    simp only [Run_some, keepFrom, evOps, guardA, isCall, dstOk, evOp, ev, updO, upd, fr, constAV, constCell, pureR, cond_true, cond_false, decide_true, decide_false, Nat.reduceLT, Nat.reduceLeDiff, Nat.reduceEqDiff, Nat.reduceAdd, Nat.reduceMul, Nat.reduceSub, Nat.zero_add, Nat.add_zero, if_true, if_false, reduceIte, reduceCtorEq, List.getD_eq_getElem?_getD, List.getElem?_cons_zero, List.getElem?_cons_succ, List.getElem?_nil, Option.getD_some, Option.getD_none, Option.bind_some, List.getElem?_toArray, true_and, and_true, evBin, evInt, evNil, evPick, evUn, thenQ_normal, thenQ_ret, thenQ_exit, blockQ_normal, blockQ_ret, blockQ_exit, AV.bool.injEq, exists_eq_left', List.map_cons, List.map_nil, Option.map_some, Option.map_none, List.toList_toArray, Bool.true_eq_false, Bool.false_eq_true, Bool.not_true, Bool.not_false, beq_self_eq_true, beq_tr, beq_fa, Int.reduceEq, Int.reduceLT, Int.reduceLE, Int.reduceAdd, evEq, sized, evBuiltin, ne_eq, not_true_eq_false, not_false_eq_true]
    refine hK _ _ ?_
    clear hK K
    refine awp_ret ?_
    simp only [retQ, resAll, resOne, resAV, Option.some.injEq, Run_some, keepFrom, evOps, guardA, isCall, dstOk, evOp, ev, updO, upd, fr, constAV, constCell, pureR, cond_true, cond_false, decide_true, decide_false, Nat.reduceLT, Nat.reduceLeDiff, Nat.reduceEqDiff, Nat.reduceAdd, Nat.reduceMul, Nat.reduceSub, Nat.zero_add, Nat.add_zero, if_true, if_false, reduceIte, reduceCtorEq, List.getD_eq_getElem?_getD, List.getElem?_cons_zero, List.getElem?_cons_succ, List.getElem?_nil, Option.getD_some, Option.getD_none, Option.bind_some, List.getElem?_toArray, true_and, and_true, evBin, evInt, evNil, evPick, evUn, thenQ_normal, thenQ_ret, thenQ_exit, blockQ_normal, blockQ_ret, blockQ_exit, AV.bool.injEq, exists_eq_left', List.map_cons, List.map_nil, Option.map_some, Option.map_none, List.toList_toArray, Bool.true_eq_false, Bool.false_eq_true, Bool.not_true, Bool.not_false, beq_self_eq_true, beq_tr, beq_fa, Int.reduceEq, Int.reduceLT, Int.reduceLE, Int.reduceAdd, evEq, sized, evBuiltin, ne_eq, not_true_eq_false, not_false_eq_true]
    have e : d.trim n = ({ d with b := d.b.take n.toNat }, 0) := by
      simp only [D.trim, hc, Bool.false_eq_true, if_false]
      rw [if_neg (by omega)]
    rw [e]
    have e2 : (d.b.take n.toNat).length = n.toNat := by simp; omega
    refine ⟨X, ?_, rfl, ?_⟩
    · simp only [e2]; exact hX1
    · simp [dcells, e2]
  refine main.ghost ?_
  rintro r σ' ⟨X, hX, rfl, rfl⟩ E v hS hv
  have hat : Store.at ((σ.set ida (.cells ver X)).set id (.cells 0 (dcells ida ver (d.trim n).1))) ida ver = some X := by
    rw [Store.at_ne hne, Store.at_put hlt2, if_pos rfl]
  have hS' := hS.short hat (d.trim n).1.b.length
  rw [hX] at hS'
  refine ⟨E, _, _, rfl, hS', Ext.refl E, hv, rfl, ?_⟩
  unfold dput
  rw [List.set_comm _ _ hne, List.set_set]

end Go.Proofs.Ytplddidoobjcnaa
