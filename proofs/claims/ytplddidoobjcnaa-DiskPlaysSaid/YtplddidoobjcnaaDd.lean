/- The disk's other functions, told on the abstract side. -/
import Derived.Test.YtplddidoobjcnaaDc
set_option linter.unusedSimpArgs false
set_option linter.unusedVariables false
set_option linter.constructorNameAsVariable false
namespace Go.Proofs.Ytplddidoobjcnaa
open AM

/-! ### what builtins do with bytes -/

theorem cells_bys_set (b z : List UInt8) (h : z.length = b.length) : setRun (bys z) 0 (bys b) = bys b := by
  have key : ∀ (xs cs : List AV) (o : Nat), o + xs.length ≤ cs.length → setRun cs o xs = cs.take o ++ xs ++ cs.drop (o + xs.length) := by
    intro xs
    induction xs with
    | nil => intro cs o h; simp [setRun]
    | cons x xs ih =>
      intro cs o h
      simp only [List.length_cons] at h
      simp only [setRun]
      rw [ih _ _ (by simp; omega)]
      rw [List.take_add_one, List.take_set_of_le (by omega), List.getElem?_set_self (by omega), List.drop_set_of_lt (by omega)]
      simp [show o + 1 + xs.length = o + (xs.length + 1) by omega]
  rw [key _ _ _ (by simp [length_bys, h])]
  simp [length_bys, ← h]

theorem mk27 {n : Int} (h0 : 0 ≤ n) (h1 : n ≤ 281474976710656) (σ : Store) : evMake tab 27 (.int .i64 n) (.int .i64 n) σ = some (.os false 1 σ.length 0 0 n.toNat true, σ ++ [.cells 0 (bys (List.replicate n.toNat 0))]) := by
  have : zeroRun [AV.int .u8 0] (n.toNat * 1) = bys (List.replicate n.toNat 0) := by
    apply List.ext_getElem
    · simp [zeroRun, bys]
    · intro i h1 h2; simp [zeroRun, bys, gc, Nat.mod_one]
  simp only [evMake, tab_27, tab_5]
  rw [if_pos ⟨h0, Int.le_refl _, by simp; omega, by omega, rfl, rfl, by decide⟩]
  simpa [AV.cells] using this

theorem cp27 {σ : Store} {id : Nat} {z b : List UInt8} {x : AV} (h : Store.at σ id 0 = some (bys z)) (hz : z.length = b.length) (hx : srcCells σ 1 x = some (b.length, bys b)) (t : Bool) (n : Nat) (hn : n = b.length) :
    evCopy tab 27 (.os false 1 id 0 0 n t) x σ = some (.int .i64 b.length, σ.set id (.cells 0 (bys b))) := by
  subst hn
  simp only [evCopy, tab_27, tab_5, hx, putInto]
  by_cases h0 : b.length = 0
  · have hb := List.length_eq_zero_iff.1 h0
    subst hb
    have hz' := List.length_eq_zero_iff.1 hz
    subst hz'
    have := set_same h
    simp [this]
  · have : (bys b).take b.length = bys b := List.take_of_length_le (by simp [length_bys])
    simp [h0, h, this, length_bys, hz, bys_one, cells_bys_set _ _ hz]

theorem conv9 {nl : Bool} {l : List UInt8} {n : Nat} (hn : n = l.length) {t : Bool} (σ : Store) : evConv tab 27 9 (.ds nl (bys l) n t) σ = some (.str l, σ) := by
  subst hn
  have : (bys l).take l.length = bys l := List.take_of_length_le (by simp [length_bys])
  simp [evConv, tab_27, tab_9, tab_5, srcCells, length_bys, this, unbs_bys]

theorem gc_bys {l : List UInt8} {i : Nat} (h : i < l.length) : gc (bys l) i = .int .u8 l[i].toNat := by
  simp [gc, bys, h]

/-- Owned bytes, read. -/
theorem Rd.bytes {σ : Store} {k id ver len : Nat} {l : List UInt8} (hk : k ≤ id) (h : Store.at σ id ver = some (bys l)) (hl : len = l.length) (nl t : Bool) (hn : nl = true → l = []) : Rd σ k (.os nl 1 id ver 0 len t) (.ds nl (bys l) len t) := by
  subst hl
  refine .os _ _ _ _ _ _ _ (bys l) (bys l) hk h (by simp) (fun e => by simp [hn e, bys]) (fun e => by rw [List.length_eq_zero_iff.1 e]; rfl) fun i hi => ?_
  rw [Nat.zero_add, gc_bys (by simpa [length_bys] using hi)]
  exact .int _ _

theorem lawBytes_ev (nl : Bool) (l : List UInt8) (t : Bool) (σ : Store) (hb : l.length ≤ 140737488355328) : ACalls Try.prog 17 [.ds nl (bys l) l.length t] σ fun r σ' => r = .ds (decide (l.length = 0)) (bys l) l.length false ∧ σ' = σ := by
  refine (ACalls.pure (R := fun r => r = .ds (decide (l.length = 0)) (bys l) l.length false) ?_).mono fun r s h => ⟨h.2, h.1⟩
  have happ : evAppend tab 27 27 (.ds true [] 0 true) (.ds nl (bys l) l.length t) σ = some (.os (decide (l.length = 0)) 1 σ.length 0 0 l.length false, σ ++ [.cells 0 (bys l)]) := by
    have hb' : (0 + l.length) * 1 ≤ 140737488355328 := by omega
    have : (bys l).take l.length = bys l := List.take_of_length_le (by simp [length_bys])
    simp only [evAppend, tab_27, tab_5, (Src.ds σ nl l t _ rfl).src, lenOfAV, evAppendTo]
    simp [hb, bys_one]
  refine acalls_body (rs := [.tmp 2]) tok Try.func17 rfl Try.ntmps17 rfl Try.call17 (by simp) ?_
  refine reg tok 3 fun K hK => ?_
  simp only [Run_some, keepFrom, evOps, guardA, isCall, dstOk, evOp, ev, updO, upd, fr, constAV, constCell, pureR, cond_true, cond_false, decide_true, decide_false, Nat.reduceLT, Nat.reduceLeDiff, Nat.reduceEqDiff, Nat.reduceAdd, Nat.reduceMul, Nat.reduceSub, Nat.zero_add, Nat.add_zero, if_true, if_false, reduceIte, reduceCtorEq, List.getD_eq_getElem?_getD, List.getElem?_cons_zero, List.getElem?_cons_succ, List.getElem?_nil, Option.getD_some, Option.getD_none, Option.bind_some, List.getElem?_toArray, true_and, and_true, evBin, evInt, evNil, evPick, evUn, thenQ_normal, thenQ_ret, thenQ_exit, blockQ_normal, blockQ_ret, blockQ_exit, AV.bool.injEq, exists_eq_left', List.map_cons, List.map_nil, Option.map_some, Option.map_none, List.toList_toArray, Bool.true_eq_false, Bool.false_eq_true, Bool.not_true, Bool.not_false, beq_self_eq_true, beq_tr, beq_fa, Int.reduceEq, Int.reduceLT, Int.reduceLE, Int.reduceAdd, evEq, sized, evBuiltin, ne_eq, not_true_eq_false, not_false_eq_true]
  refine hK _ _ ?_
  clear hK K
  refine reg tok 3 fun K hK => ?_
  simp only [Run_some, keepFrom, evOps, guardA, isCall, dstOk, evOp, ev, updO, upd, fr, constAV, constCell, pureR, cond_true, cond_false, decide_true, decide_false, Nat.reduceLT, Nat.reduceLeDiff, Nat.reduceEqDiff, Nat.reduceAdd, Nat.reduceMul, Nat.reduceSub, Nat.zero_add, Nat.add_zero, if_true, if_false, reduceIte, reduceCtorEq, List.getD_eq_getElem?_getD, List.getElem?_cons_zero, List.getElem?_cons_succ, List.getElem?_nil, Option.getD_some, Option.getD_none, Option.bind_some, List.getElem?_toArray, true_and, and_true, evBin, evInt, evNil, evPick, evUn, thenQ_normal, thenQ_ret, thenQ_exit, blockQ_normal, blockQ_ret, blockQ_exit, AV.bool.injEq, exists_eq_left', List.map_cons, List.map_nil, Option.map_some, Option.map_none, List.toList_toArray, Bool.true_eq_false, Bool.false_eq_true, Bool.not_true, Bool.not_false, beq_self_eq_true, beq_tr, beq_fa, Int.reduceEq, Int.reduceLT, Int.reduceLE, Int.reduceAdd, evEq, sized, evBuiltin, ne_eq, not_true_eq_false, not_false_eq_true, TypeDesc.isAgg, TI.agg, Store.at_ne, Store.at_hd, Store.at_new1, evLoad, evRd, evStore, evFieldAddr, evIndexAddr, evBox, len27_os, len27_ds, len9, evMax2, evMin2, evFold, foldO, setRun, AV.okc, AV.one, AV.cells, gc, List.length_cons, List.length_nil, List.set_cons_zero, List.set_cons_succ, List.all_cons, List.all_nil, Bool.and_true, Bool.true_and, and_self, Option.isSome_some, tab_27, tab_68, tab_3, tab_4, tab_5, tab_9, tab_23, tab_28, tab_41, tab_70, tab_34, tab_22, tab_40, tab_44, Store.at_put, Store.at_push, Store.at_nw, List.length_set, List.length_append, List.getElem_toArray, List.size_toArray, List.getElem_cons_zero, List.getElem_cons_succ, happ]
  refine hK _ _ ?_
  clear hK K
  refine awp_ret ?_
  simp only [retQ, resAll, resOne, resAV, Option.some.injEq, Run_some, keepFrom, evOps, guardA, isCall, dstOk, evOp, ev, updO, upd, fr, constAV, constCell, pureR, cond_true, cond_false, decide_true, decide_false, Nat.reduceLT, Nat.reduceLeDiff, Nat.reduceEqDiff, Nat.reduceAdd, Nat.reduceMul, Nat.reduceSub, Nat.zero_add, Nat.add_zero, if_true, if_false, reduceIte, reduceCtorEq, List.getD_eq_getElem?_getD, List.getElem?_cons_zero, List.getElem?_cons_succ, List.getElem?_nil, Option.getD_some, Option.getD_none, Option.bind_some, List.getElem?_toArray, true_and, and_true, evBin, evInt, evNil, evPick, evUn, thenQ_normal, thenQ_ret, thenQ_exit, blockQ_normal, blockQ_ret, blockQ_exit, AV.bool.injEq, exists_eq_left', List.map_cons, List.map_nil, Option.map_some, Option.map_none, List.toList_toArray, Bool.true_eq_false, Bool.false_eq_true, Bool.not_true, Bool.not_false, beq_self_eq_true, beq_tr, beq_fa, Int.reduceEq, Int.reduceLT, Int.reduceLE, Int.reduceAdd, evEq, sized, evBuiltin, ne_eq, not_true_eq_false, not_false_eq_true]
  refine ⟨_, _, rfl, Rd.bytes (Nat.le_refl _) (Store.at_new _ _ _) rfl _ _ (fun h => ?_), rfl⟩
  exact List.length_eq_zero_iff.1 (by simpa using h)

theorem bytes_ev {σ : Store} {id ida ver : Nat} {d : D} (h : Dk σ id ida ver d) : ACalls Try.prog 19 [.op id 0 0] σ fun r σ' => r = .ds false (bys d.b) d.b.length true ∧ σ' = σ := by
  have h1 := h.box
  have hlt := Store.at_lt h1
  have hlt2 := Store.at_lt h.bytes
  have k3 := h.len
  have k2 := h.room
  simp only [dcells] at h1
  have hmk := mk27 (n := (d.b.length : Int)) (by omega) (by omega) σ
  refine (ACalls.pure (R := fun r => r = .ds false (bys d.b) d.b.length true) ?_).mono fun r s h => ⟨h.2, h.1⟩
  have hcp := cp27 (σ := σ ++ [.cells 0 (bys (List.replicate d.b.length 0))]) (id := σ.length) (z := List.replicate d.b.length 0) (b := d.b) (x := .os d.nl 1 ida ver 0 d.b.length false) (Store.at_new _ _ _) (by simp)
    (Src.os (by rw [Store.at_push hlt2]; exact h.bytes) d.nl false).src true d.b.length rfl
  refine acalls_body (rs := [.tmp 2]) tok Try.func19 rfl Try.ntmps19 rfl Try.call19 (by simp) ?_
  refine reg tok 3 fun K hK => ?_
  simp only [Run_some, keepFrom, evOps, guardA, isCall, dstOk, evOp, ev, updO, upd, fr, constAV, constCell, pureR, cond_true, cond_false, decide_true, decide_false, Nat.reduceLT, Nat.reduceLeDiff, Nat.reduceEqDiff, Nat.reduceAdd, Nat.reduceMul, Nat.reduceSub, Nat.zero_add, Nat.add_zero, if_true, if_false, reduceIte, reduceCtorEq, List.getD_eq_getElem?_getD, List.getElem?_cons_zero, List.getElem?_cons_succ, List.getElem?_nil, Option.getD_some, Option.getD_none, Option.bind_some, List.getElem?_toArray, true_and, and_true, evBin, evInt, evNil, evPick, evUn, thenQ_normal, thenQ_ret, thenQ_exit, blockQ_normal, blockQ_ret, blockQ_exit, AV.bool.injEq, exists_eq_left', List.map_cons, List.map_nil, Option.map_some, Option.map_none, List.toList_toArray, Bool.true_eq_false, Bool.false_eq_true, Bool.not_true, Bool.not_false, beq_self_eq_true, beq_tr, beq_fa, Int.reduceEq, Int.reduceLT, Int.reduceLE, Int.reduceAdd, evEq, sized, evBuiltin, ne_eq, not_true_eq_false, not_false_eq_true]
  refine hK _ _ ?_
  clear hK K
  refine reg tok 4 fun K hK => ?_
  simp only [Run_some, keepFrom, evOps, guardA, isCall, dstOk, evOp, ev, updO, upd, fr, constAV, constCell, pureR, cond_true, cond_false, decide_true, decide_false, Nat.reduceLT, Nat.reduceLeDiff, Nat.reduceEqDiff, Nat.reduceAdd, Nat.reduceMul, Nat.reduceSub, Nat.zero_add, Nat.add_zero, if_true, if_false, reduceIte, reduceCtorEq, List.getD_eq_getElem?_getD, List.getElem?_cons_zero, List.getElem?_cons_succ, List.getElem?_nil, Option.getD_some, Option.getD_none, Option.bind_some, List.getElem?_toArray, true_and, and_true, evBin, evInt, evNil, evPick, evUn, thenQ_normal, thenQ_ret, thenQ_exit, blockQ_normal, blockQ_ret, blockQ_exit, AV.bool.injEq, exists_eq_left', List.map_cons, List.map_nil, Option.map_some, Option.map_none, List.toList_toArray, Bool.true_eq_false, Bool.false_eq_true, Bool.not_true, Bool.not_false, beq_self_eq_true, beq_tr, beq_fa, Int.reduceEq, Int.reduceLT, Int.reduceLE, Int.reduceAdd, evEq, sized, evBuiltin, ne_eq, not_true_eq_false, not_false_eq_true, TypeDesc.isAgg, TI.agg, Store.at_ne, Store.at_hd, Store.at_new1, evLoad, evRd, evStore, evFieldAddr, evIndexAddr, evBox, len27_os, len27_ds, len9, evMax2, evMin2, evFold, foldO, setRun, AV.okc, AV.one, AV.cells, gc, List.length_cons, List.length_nil, List.set_cons_zero, List.set_cons_succ, List.all_cons, List.all_nil, Bool.and_true, Bool.true_and, and_self, Option.isSome_some, tab_27, tab_68, tab_3, tab_4, tab_5, tab_9, tab_23, tab_28, tab_41, tab_70, tab_34, tab_22, tab_40, tab_44, Store.at_put, Store.at_push, Store.at_nw, List.length_set, List.length_append, List.getElem_toArray, List.size_toArray, List.getElem_cons_zero, List.getElem_cons_succ, h1, hmk, Int.toNat_natCast]
  refine hK _ _ ?_
  clear hK K
  refine reg tok 4 fun K hK => ?_
  simp only [Run_some, keepFrom, evOps, guardA, isCall, dstOk, evOp, ev, updO, upd, fr, constAV, constCell, pureR, cond_true, cond_false, decide_true, decide_false, Nat.reduceLT, Nat.reduceLeDiff, Nat.reduceEqDiff, Nat.reduceAdd, Nat.reduceMul, Nat.reduceSub, Nat.zero_add, Nat.add_zero, if_true, if_false, reduceIte, reduceCtorEq, List.getD_eq_getElem?_getD, List.getElem?_cons_zero, List.getElem?_cons_succ, List.getElem?_nil, Option.getD_some, Option.getD_none, Option.bind_some, List.getElem?_toArray, true_and, and_true, evBin, evInt, evNil, evPick, evUn, thenQ_normal, thenQ_ret, thenQ_exit, blockQ_normal, blockQ_ret, blockQ_exit, AV.bool.injEq, exists_eq_left', List.map_cons, List.map_nil, Option.map_some, Option.map_none, List.toList_toArray, Bool.true_eq_false, Bool.false_eq_true, Bool.not_true, Bool.not_false, beq_self_eq_true, beq_tr, beq_fa, Int.reduceEq, Int.reduceLT, Int.reduceLE, Int.reduceAdd, evEq, sized, evBuiltin, ne_eq, not_true_eq_false, not_false_eq_true, TypeDesc.isAgg, TI.agg, Store.at_ne, Store.at_hd, Store.at_new1, evLoad, evRd, evStore, evFieldAddr, evIndexAddr, evBox, len27_os, len27_ds, len9, evMax2, evMin2, evFold, foldO, setRun, AV.okc, AV.one, AV.cells, gc, List.length_cons, List.length_nil, List.set_cons_zero, List.set_cons_succ, List.all_cons, List.all_nil, Bool.and_true, Bool.true_and, and_self, Option.isSome_some, tab_27, tab_68, tab_3, tab_4, tab_5, tab_9, tab_23, tab_28, tab_41, tab_70, tab_34, tab_22, tab_40, tab_44, Store.at_put, Store.at_push, Store.at_nw, List.length_set, List.length_append, List.getElem_toArray, List.size_toArray, List.getElem_cons_zero, List.getElem_cons_succ, h1, hlt, hcp]
  refine hK _ _ ?_
  clear hK K
  refine reg tok 4 fun K hK => ?_
  simp only [Run_some, keepFrom, evOps, guardA, isCall, dstOk, evOp, ev, updO, upd, fr, constAV, constCell, pureR, cond_true, cond_false, decide_true, decide_false, Nat.reduceLT, Nat.reduceLeDiff, Nat.reduceEqDiff, Nat.reduceAdd, Nat.reduceMul, Nat.reduceSub, Nat.zero_add, Nat.add_zero, if_true, if_false, reduceIte, reduceCtorEq, List.getD_eq_getElem?_getD, List.getElem?_cons_zero, List.getElem?_cons_succ, List.getElem?_nil, Option.getD_some, Option.getD_none, Option.bind_some, List.getElem?_toArray, true_and, and_true, evBin, evInt, evNil, evPick, evUn, thenQ_normal, thenQ_ret, thenQ_exit, blockQ_normal, blockQ_ret, blockQ_exit, AV.bool.injEq, exists_eq_left', List.map_cons, List.map_nil, Option.map_some, Option.map_none, List.toList_toArray, Bool.true_eq_false, Bool.false_eq_true, Bool.not_true, Bool.not_false, beq_self_eq_true, beq_tr, beq_fa, Int.reduceEq, Int.reduceLT, Int.reduceLE, Int.reduceAdd, evEq, sized, evBuiltin, ne_eq, not_true_eq_false, not_false_eq_true]
  refine hK _ _ ?_
  clear hK K
  refine awp_ret ?_
  simp only [retQ, resAll, resOne, resAV, Option.some.injEq, Run_some, keepFrom, evOps, guardA, isCall, dstOk, evOp, ev, updO, upd, fr, constAV, constCell, pureR, cond_true, cond_false, decide_true, decide_false, Nat.reduceLT, Nat.reduceLeDiff, Nat.reduceEqDiff, Nat.reduceAdd, Nat.reduceMul, Nat.reduceSub, Nat.zero_add, Nat.add_zero, if_true, if_false, reduceIte, reduceCtorEq, List.getD_eq_getElem?_getD, List.getElem?_cons_zero, List.getElem?_cons_succ, List.getElem?_nil, Option.getD_some, Option.getD_none, Option.bind_some, List.getElem?_toArray, true_and, and_true, evBin, evInt, evNil, evPick, evUn, thenQ_normal, thenQ_ret, thenQ_exit, blockQ_normal, blockQ_ret, blockQ_exit, AV.bool.injEq, exists_eq_left', List.map_cons, List.map_nil, Option.map_some, Option.map_none, List.toList_toArray, Bool.true_eq_false, Bool.false_eq_true, Bool.not_true, Bool.not_false, beq_self_eq_true, beq_tr, beq_fa, Int.reduceEq, Int.reduceLT, Int.reduceLE, Int.reduceAdd, evEq, sized, evBuiltin, ne_eq, not_true_eq_false, not_false_eq_true]
  refine ⟨[.cells 0 (bys d.b)], _, ?_, Rd.bytes (Nat.le_refl _) ?_ rfl _ _ (fun e => by cases e), rfl⟩
  · simp
  · simp [Store.at]

end Go.Proofs.Ytplddidoobjcnaa
