/- What the disk's functions do to a disk, told on the abstract side. -/
import Derived.Test.YtplddidoobjcnaaDa
import Derived.Test.YtplddidoobjcnaaAo
set_option linter.unusedSimpArgs false
set_option linter.unusedVariables false
set_option linter.constructorNameAsVariable false
namespace Go.Proofs.Ytplddidoobjcnaa
open AM

theorem len27_os (nl : Bool) (sz id ver off len : Nat) (t : Bool) (σ : Store) : evLen tab 27 (.os nl sz id ver off len t) σ = some (.int .i64 len) := rfl
theorem len27_ds (nl : Bool) (cs : List AV) (len : Nat) (t : Bool) (σ : Store) : evLen tab 27 (.ds nl cs len t) σ = some (.int .i64 len) := rfl
theorem len9 (s : List UInt8) (σ : Store) : evLen tab 9 (.str s) σ = some (.int .i64 s.length) := rfl

/-- A disk. -/
structure D where
  nl : Bool
  b : List UInt8
  room : Int
  left : Int
  dead : Bool

/-- Its variable's cells. -/
def dcells (ida ver : Nat) (d : D) : List AV := [.os d.nl 1 ida ver 0 d.b.length false, .int .i64 d.room, .int .i64 d.left, .bool d.dead]

/-- A store holds it. -/
structure Dk (σ : Store) (id ida ver : Nat) (d : D) : Prop where
  box : Store.at σ id 0 = some (dcells ida ver d)
  bytes : Store.at σ ida ver = some (bys d.b)
  ne : id ≠ ida
  nil : d.nl = true → d.b = []
  room : 0 ≤ d.room ∧ d.room ≤ 1048576
  len : (d.b.length : Int) ≤ d.room
  left : -1 ≤ d.left ∧ d.left < 9223372036854775808

theorem dead_ev {σ : Store} {id ida ver : Nat} {d : D} (h : Dk σ id ida ver d) : ACalls Try.prog 18 [.op id 0 0] σ fun r σ' => r = .bool d.dead ∧ σ' = σ := by
  have h1 := h.box
  simp only [dcells] at h1
  refine acalls_body (rs := [.tmp 2]) tok Try.func18 rfl Try.ntmps18 rfl Try.call18 (by simp) ?_
  refine reg tok 3 fun K hK => ?_
  simp only [Run_some, keepFrom, evOps, guardA, isCall, dstOk, evOp, ev, updO, upd, fr, constAV, constCell, pureR, cond_true, cond_false, decide_true, decide_false, Nat.reduceLT, Nat.reduceLeDiff, Nat.reduceEqDiff, Nat.reduceAdd, Nat.reduceMul, Nat.reduceSub, Nat.zero_add, Nat.add_zero, if_true, if_false, reduceIte, reduceCtorEq, List.getD_eq_getElem?_getD, List.getElem?_cons_zero, List.getElem?_cons_succ, List.getElem?_nil, Option.getD_some, Option.getD_none, Option.bind_some, List.getElem?_toArray, true_and, and_true, evBin, evInt, evNil, evPick, evUn, thenQ_normal, thenQ_ret, thenQ_exit, blockQ_normal, blockQ_ret, blockQ_exit, AV.bool.injEq, exists_eq_left', List.map_cons, List.map_nil, Option.map_some, Option.map_none, List.toList_toArray, Bool.true_eq_false, Bool.false_eq_true, Bool.not_true, Bool.not_false, beq_self_eq_true, beq_tr, beq_fa, Int.reduceEq, Int.reduceLT, Int.reduceLE, Int.reduceAdd, evEq, sized, evBuiltin, ne_eq, not_true_eq_false, not_false_eq_true]
  refine hK _ _ ?_
  clear hK K
  refine reg tok 3 fun K hK => ?_
  simp only [Run_some, keepFrom, evOps, guardA, isCall, dstOk, evOp, ev, updO, upd, fr, constAV, constCell, pureR, cond_true, cond_false, decide_true, decide_false, Nat.reduceLT, Nat.reduceLeDiff, Nat.reduceEqDiff, Nat.reduceAdd, Nat.reduceMul, Nat.reduceSub, Nat.zero_add, Nat.add_zero, if_true, if_false, reduceIte, reduceCtorEq, List.getD_eq_getElem?_getD, List.getElem?_cons_zero, List.getElem?_cons_succ, List.getElem?_nil, Option.getD_some, Option.getD_none, Option.bind_some, List.getElem?_toArray, true_and, and_true, evBin, evInt, evNil, evPick, evUn, thenQ_normal, thenQ_ret, thenQ_exit, blockQ_normal, blockQ_ret, blockQ_exit, AV.bool.injEq, exists_eq_left', List.map_cons, List.map_nil, Option.map_some, Option.map_none, List.toList_toArray, Bool.true_eq_false, Bool.false_eq_true, Bool.not_true, Bool.not_false, beq_self_eq_true, beq_tr, beq_fa, Int.reduceEq, Int.reduceLT, Int.reduceLE, Int.reduceAdd, evEq, sized, evBuiltin, ne_eq, not_true_eq_false, not_false_eq_true, TypeDesc.isAgg, TI.agg, Store.at_ne, Store.at_hd, Store.at_new1, evLoad, evRd, evStore, evFieldAddr, evIndexAddr, evBox, len27_os, len27_ds, len9, evMax2, evMin2, evFold, foldO, setRun, AV.okc, AV.one, AV.cells, gc, List.length_cons, List.length_nil, List.set_cons_zero, List.set_cons_succ, List.all_cons, List.all_nil, Bool.and_true, Bool.true_and, and_self, Option.isSome_some, tab_27, tab_68, tab_3, tab_4, tab_5, tab_9, tab_23, tab_28, tab_41, tab_70, tab_34, tab_22, tab_40, tab_44, Store.at_put, Store.at_push, Store.at_nw, List.length_set, List.length_append, List.getElem_toArray, List.size_toArray, List.getElem_cons_zero, List.getElem_cons_succ, h1]
  refine hK _ _ ?_
  clear hK K
  refine awp_ret ?_
  simp only [retQ, resAll, resOne, resAV, Option.some.injEq, Run_some, keepFrom, evOps, guardA, isCall, dstOk, evOp, ev, updO, upd, fr, constAV, constCell, pureR, cond_true, cond_false, decide_true, decide_false, Nat.reduceLT, Nat.reduceLeDiff, Nat.reduceEqDiff, Nat.reduceAdd, Nat.reduceMul, Nat.reduceSub, Nat.zero_add, Nat.add_zero, if_true, if_false, reduceIte, reduceCtorEq, List.getD_eq_getElem?_getD, List.getElem?_cons_zero, List.getElem?_cons_succ, List.getElem?_nil, Option.getD_some, Option.getD_none, Option.bind_some, List.getElem?_toArray, true_and, and_true, evBin, evInt, evNil, evPick, evUn, thenQ_normal, thenQ_ret, thenQ_exit, blockQ_normal, blockQ_ret, blockQ_exit, AV.bool.injEq, exists_eq_left', List.map_cons, List.map_nil, Option.map_some, Option.map_none, List.toList_toArray, Bool.true_eq_false, Bool.false_eq_true, Bool.not_true, Bool.not_false, beq_self_eq_true, beq_tr, beq_fa, Int.reduceEq, Int.reduceLT, Int.reduceLE, Int.reduceAdd, evEq, sized, evBuiltin, ne_eq, not_true_eq_false, not_false_eq_true]

theorem room_ev {σ : Store} {id ida ver : Nat} {d : D} (h : Dk σ id ida ver d) : ACalls Try.prog 21 [.op id 0 0] σ fun r σ' => r = .int .i64 d.room ∧ σ' = σ := by
  have h1 := h.box
  simp only [dcells] at h1
  refine acalls_body (rs := [.tmp 2]) tok Try.func21 rfl Try.ntmps21 rfl Try.call21 (by simp) ?_
  refine reg tok 3 fun K hK => ?_
  simp only [Run_some, keepFrom, evOps, guardA, isCall, dstOk, evOp, ev, updO, upd, fr, constAV, constCell, pureR, cond_true, cond_false, decide_true, decide_false, Nat.reduceLT, Nat.reduceLeDiff, Nat.reduceEqDiff, Nat.reduceAdd, Nat.reduceMul, Nat.reduceSub, Nat.zero_add, Nat.add_zero, if_true, if_false, reduceIte, reduceCtorEq, List.getD_eq_getElem?_getD, List.getElem?_cons_zero, List.getElem?_cons_succ, List.getElem?_nil, Option.getD_some, Option.getD_none, Option.bind_some, List.getElem?_toArray, true_and, and_true, evBin, evInt, evNil, evPick, evUn, thenQ_normal, thenQ_ret, thenQ_exit, blockQ_normal, blockQ_ret, blockQ_exit, AV.bool.injEq, exists_eq_left', List.map_cons, List.map_nil, Option.map_some, Option.map_none, List.toList_toArray, Bool.true_eq_false, Bool.false_eq_true, Bool.not_true, Bool.not_false, beq_self_eq_true, beq_tr, beq_fa, Int.reduceEq, Int.reduceLT, Int.reduceLE, Int.reduceAdd, evEq, sized, evBuiltin, ne_eq, not_true_eq_false, not_false_eq_true]
  refine hK _ _ ?_
  clear hK K
  refine reg tok 3 fun K hK => ?_
  simp only [Run_some, keepFrom, evOps, guardA, isCall, dstOk, evOp, ev, updO, upd, fr, constAV, constCell, pureR, cond_true, cond_false, decide_true, decide_false, Nat.reduceLT, Nat.reduceLeDiff, Nat.reduceEqDiff, Nat.reduceAdd, Nat.reduceMul, Nat.reduceSub, Nat.zero_add, Nat.add_zero, if_true, if_false, reduceIte, reduceCtorEq, List.getD_eq_getElem?_getD, List.getElem?_cons_zero, List.getElem?_cons_succ, List.getElem?_nil, Option.getD_some, Option.getD_none, Option.bind_some, List.getElem?_toArray, true_and, and_true, evBin, evInt, evNil, evPick, evUn, thenQ_normal, thenQ_ret, thenQ_exit, blockQ_normal, blockQ_ret, blockQ_exit, AV.bool.injEq, exists_eq_left', List.map_cons, List.map_nil, Option.map_some, Option.map_none, List.toList_toArray, Bool.true_eq_false, Bool.false_eq_true, Bool.not_true, Bool.not_false, beq_self_eq_true, beq_tr, beq_fa, Int.reduceEq, Int.reduceLT, Int.reduceLE, Int.reduceAdd, evEq, sized, evBuiltin, ne_eq, not_true_eq_false, not_false_eq_true, TypeDesc.isAgg, TI.agg, Store.at_ne, Store.at_hd, Store.at_new1, evLoad, evRd, evStore, evFieldAddr, evIndexAddr, evBox, len27_os, len27_ds, len9, evMax2, evMin2, evFold, foldO, setRun, AV.okc, AV.one, AV.cells, gc, List.length_cons, List.length_nil, List.set_cons_zero, List.set_cons_succ, List.all_cons, List.all_nil, Bool.and_true, Bool.true_and, and_self, Option.isSome_some, tab_27, tab_68, tab_3, tab_4, tab_5, tab_9, tab_23, tab_28, tab_41, tab_70, tab_34, tab_22, tab_40, tab_44, Store.at_put, Store.at_push, Store.at_nw, List.length_set, List.length_append, List.getElem_toArray, List.size_toArray, List.getElem_cons_zero, List.getElem_cons_succ, h1]
  refine hK _ _ ?_
  clear hK K
  refine awp_ret ?_
  simp only [retQ, resAll, resOne, resAV, Option.some.injEq, Run_some, keepFrom, evOps, guardA, isCall, dstOk, evOp, ev, updO, upd, fr, constAV, constCell, pureR, cond_true, cond_false, decide_true, decide_false, Nat.reduceLT, Nat.reduceLeDiff, Nat.reduceEqDiff, Nat.reduceAdd, Nat.reduceMul, Nat.reduceSub, Nat.zero_add, Nat.add_zero, if_true, if_false, reduceIte, reduceCtorEq, List.getD_eq_getElem?_getD, List.getElem?_cons_zero, List.getElem?_cons_succ, List.getElem?_nil, Option.getD_some, Option.getD_none, Option.bind_some, List.getElem?_toArray, true_and, and_true, evBin, evInt, evNil, evPick, evUn, thenQ_normal, thenQ_ret, thenQ_exit, blockQ_normal, blockQ_ret, blockQ_exit, AV.bool.injEq, exists_eq_left', List.map_cons, List.map_nil, Option.map_some, Option.map_none, List.toList_toArray, Bool.true_eq_false, Bool.false_eq_true, Bool.not_true, Bool.not_false, beq_self_eq_true, beq_tr, beq_fa, Int.reduceEq, Int.reduceLT, Int.reduceLE, Int.reduceAdd, evEq, sized, evBuiltin, ne_eq, not_true_eq_false, not_false_eq_true]

theorem size_ev {σ : Store} {id ida ver : Nat} {d : D} (h : Dk σ id ida ver d) : ACalls Try.prog 22 [.op id 0 0] σ fun r σ' => r = .int .i64 d.b.length ∧ σ' = σ := by
  have h1 := h.box
  simp only [dcells] at h1
  refine acalls_body (rs := [.tmp 2]) tok Try.func22 rfl Try.ntmps22 rfl Try.call22 (by simp) ?_
  refine reg tok 3 fun K hK => ?_
  simp only [Run_some, keepFrom, evOps, guardA, isCall, dstOk, evOp, ev, updO, upd, fr, constAV, constCell, pureR, cond_true, cond_false, decide_true, decide_false, Nat.reduceLT, Nat.reduceLeDiff, Nat.reduceEqDiff, Nat.reduceAdd, Nat.reduceMul, Nat.reduceSub, Nat.zero_add, Nat.add_zero, if_true, if_false, reduceIte, reduceCtorEq, List.getD_eq_getElem?_getD, List.getElem?_cons_zero, List.getElem?_cons_succ, List.getElem?_nil, Option.getD_some, Option.getD_none, Option.bind_some, List.getElem?_toArray, true_and, and_true, evBin, evInt, evNil, evPick, evUn, thenQ_normal, thenQ_ret, thenQ_exit, blockQ_normal, blockQ_ret, blockQ_exit, AV.bool.injEq, exists_eq_left', List.map_cons, List.map_nil, Option.map_some, Option.map_none, List.toList_toArray, Bool.true_eq_false, Bool.false_eq_true, Bool.not_true, Bool.not_false, beq_self_eq_true, beq_tr, beq_fa, Int.reduceEq, Int.reduceLT, Int.reduceLE, Int.reduceAdd, evEq, sized, evBuiltin, ne_eq, not_true_eq_false, not_false_eq_true]
  refine hK _ _ ?_
  clear hK K
  refine reg tok 3 fun K hK => ?_
  simp only [Run_some, keepFrom, evOps, guardA, isCall, dstOk, evOp, ev, updO, upd, fr, constAV, constCell, pureR, cond_true, cond_false, decide_true, decide_false, Nat.reduceLT, Nat.reduceLeDiff, Nat.reduceEqDiff, Nat.reduceAdd, Nat.reduceMul, Nat.reduceSub, Nat.zero_add, Nat.add_zero, if_true, if_false, reduceIte, reduceCtorEq, List.getD_eq_getElem?_getD, List.getElem?_cons_zero, List.getElem?_cons_succ, List.getElem?_nil, Option.getD_some, Option.getD_none, Option.bind_some, List.getElem?_toArray, true_and, and_true, evBin, evInt, evNil, evPick, evUn, thenQ_normal, thenQ_ret, thenQ_exit, blockQ_normal, blockQ_ret, blockQ_exit, AV.bool.injEq, exists_eq_left', List.map_cons, List.map_nil, Option.map_some, Option.map_none, List.toList_toArray, Bool.true_eq_false, Bool.false_eq_true, Bool.not_true, Bool.not_false, beq_self_eq_true, beq_tr, beq_fa, Int.reduceEq, Int.reduceLT, Int.reduceLE, Int.reduceAdd, evEq, sized, evBuiltin, ne_eq, not_true_eq_false, not_false_eq_true, TypeDesc.isAgg, TI.agg, Store.at_ne, Store.at_hd, Store.at_new1, evLoad, evRd, evStore, evFieldAddr, evIndexAddr, evBox, len27_os, len27_ds, len9, evMax2, evMin2, evFold, foldO, setRun, AV.okc, AV.one, AV.cells, gc, List.length_cons, List.length_nil, List.set_cons_zero, List.set_cons_succ, List.all_cons, List.all_nil, Bool.and_true, Bool.true_and, and_self, Option.isSome_some, tab_27, tab_68, tab_3, tab_4, tab_5, tab_9, tab_23, tab_28, tab_41, tab_70, tab_34, tab_22, tab_40, tab_44, Store.at_put, Store.at_push, Store.at_nw, List.length_set, List.length_append, List.getElem_toArray, List.size_toArray, List.getElem_cons_zero, List.getElem_cons_succ, h1]
  refine hK _ _ ?_
  clear hK K
  refine awp_ret ?_
  simp only [retQ, resAll, resOne, resAV, Option.some.injEq, Run_some, keepFrom, evOps, guardA, isCall, dstOk, evOp, ev, updO, upd, fr, constAV, constCell, pureR, cond_true, cond_false, decide_true, decide_false, Nat.reduceLT, Nat.reduceLeDiff, Nat.reduceEqDiff, Nat.reduceAdd, Nat.reduceMul, Nat.reduceSub, Nat.zero_add, Nat.add_zero, if_true, if_false, reduceIte, reduceCtorEq, List.getD_eq_getElem?_getD, List.getElem?_cons_zero, List.getElem?_cons_succ, List.getElem?_nil, Option.getD_some, Option.getD_none, Option.bind_some, List.getElem?_toArray, true_and, and_true, evBin, evInt, evNil, evPick, evUn, thenQ_normal, thenQ_ret, thenQ_exit, blockQ_normal, blockQ_ret, blockQ_exit, AV.bool.injEq, exists_eq_left', List.map_cons, List.map_nil, Option.map_some, Option.map_none, List.toList_toArray, Bool.true_eq_false, Bool.false_eq_true, Bool.not_true, Bool.not_false, beq_self_eq_true, beq_tr, beq_fa, Int.reduceEq, Int.reduceLT, Int.reduceLE, Int.reduceAdd, evEq, sized, evBuiltin, ne_eq, not_true_eq_false, not_false_eq_true]

/-- The store behind a change of the disk. -/
def dput (σ : Store) (id ida ver : Nat) (d : D) : Store := (σ.set ida (.cells ver (bys d.b))).set id (.cells 0 (dcells ida ver d))

theorem set_same {σ : Store} {id ver : Nat} {cs : List AV} (h : Store.at σ id ver = some cs) : σ.set id (.cells ver cs) = σ := by
  have hlt := Store.at_lt h
  have h1 := Store.at_some h
  rw [List.getElem?_eq_getElem hlt] at h1
  have h2 : AObj.cells ver cs = σ[id] := by simpa using h1.symm
  rw [h2]; simp

theorem dput_box {σ : Store} {id ida ver : Nat} {d d' : D} (h : Dk σ id ida ver d) (hb : d'.b = d.b) : σ.set id (.cells 0 (dcells ida ver d')) = dput σ id ida ver d' := by
  unfold dput
  rw [hb, set_same h.bytes]

theorem dput_self {σ : Store} {id ida ver : Nat} {d : D} (h : Dk σ id ida ver d) : dput σ id ida ver d = σ := by
  rw [← dput_box h rfl, set_same h.box]

theorem length_dput (σ : Store) (id ida ver : Nat) (d : D) : (dput σ id ida ver d).length = σ.length := by simp [dput]

/-- What a disk must be. -/
structure D.Ok (d : D) : Prop where
  nil : d.nl = true → d.b = []
  room : 0 ≤ d.room ∧ d.room ≤ 1048576
  len : (d.b.length : Int) ≤ d.room
  left : -1 ≤ d.left ∧ d.left < 9223372036854775808

theorem Dk.ok {σ : Store} {id ida ver : Nat} {d : D} (h : Dk σ id ida ver d) : d.Ok := ⟨h.nil, h.room, h.len, h.left⟩

theorem Dk.put {σ : Store} {id ida ver : Nat} {d : D} (h : Dk σ id ida ver d) {ver' : Nat} {d' : D} (k : d'.Ok) : Dk (dput σ id ida ver' d') id ida ver' d' := by
  have h1 := Store.at_lt h.box
  have h2 := Store.at_lt h.bytes
  refine ⟨?_, ?_, h.ne, k.nil, k.room, k.len, k.left⟩
  · unfold dput; rw [Store.at_put (by simpa using h1), if_pos rfl]
  · unfold dput; rw [Store.at_ne h.ne, Store.at_put h2, if_pos rfl]

theorem Dk.other {σ : Store} {id ida ver : Nat} {d : D} (h : Dk σ id ida ver d) {id' ida' ver' : Nat} {d' : D} (h1 : id' ≠ id) (h2 : id' ≠ ida) (h3 : ida' ≠ id) (h4 : ida' ≠ ida) : Dk (dput σ id' ida' ver' d') id ida ver d := by
  refine ⟨?_, ?_, h.ne, h.nil, h.room, h.len, h.left⟩
  · unfold dput; rw [Store.at_ne h1, Store.at_ne h3]; exact h.box
  · unfold dput; rw [Store.at_ne h2, Store.at_ne h4]; exact h.bytes

theorem Dk.push {σ : Store} {id ida ver : Nat} {d : D} (h : Dk σ id ida ver d) (x : Store) : Dk (σ ++ x) id ida ver d := by
  refine ⟨?_, ?_, h.ne, h.nil, h.room, h.len, h.left⟩
  · rw [Store.at_push (Store.at_lt h.box)]; exact h.box
  · rw [Store.at_push (Store.at_lt h.bytes)]; exact h.bytes

def D.cut (d : D) (n : Int) : D := if d.dead then d else { d with left := if 0 < n then n else 0 }

theorem D.Ok.cut {d : D} (h : d.Ok) {n : Int} (hn : n < 9223372036854775808) : (d.cut n).Ok := by
  unfold D.cut
  split
  · exact h
  · refine ⟨h.nil, h.room, h.len, ?_⟩
    simp only; split <;> omega

theorem cut_ev {σ : Store} {id ida ver : Nat} {d : D} (h : Dk σ id ida ver d) (n : Int) : ACalls Try.prog 15 [.op id 0 0, .int .i64 n] σ fun r σ' => r = .tup [] ∧ σ' = dput σ id ida ver (d.cut n) := by
  have h1 := h.box
  have hlt := Store.at_lt h1
  simp only [dcells] at h1
  refine acalls_body (rs := []) tok Try.func15 rfl Try.ntmps15 rfl Try.call15 (by simp) ?_
  refine regIf tok 3 fun A B hA hB => ?_
  simp only [Run_some, keepFrom, evOps, guardA, isCall, dstOk, evOp, ev, updO, upd, fr, constAV, constCell, pureR, cond_true, cond_false, decide_true, decide_false, Nat.reduceLT, Nat.reduceLeDiff, Nat.reduceEqDiff, Nat.reduceAdd, Nat.reduceMul, Nat.reduceSub, Nat.zero_add, Nat.add_zero, if_true, if_false, reduceIte, reduceCtorEq, List.getD_eq_getElem?_getD, List.getElem?_cons_zero, List.getElem?_cons_succ, List.getElem?_nil, Option.getD_some, Option.getD_none, Option.bind_some, List.getElem?_toArray, true_and, and_true, evBin, evInt, evNil, evPick, evUn, thenQ_normal, thenQ_ret, thenQ_exit, blockQ_normal, blockQ_ret, blockQ_exit, AV.bool.injEq, exists_eq_left', List.map_cons, List.map_nil, Option.map_some, Option.map_none, List.toList_toArray, Bool.true_eq_false, Bool.false_eq_true, Bool.not_true, Bool.not_false, beq_self_eq_true, beq_tr, beq_fa, Int.reduceEq, Int.reduceLT, Int.reduceLE, Int.reduceAdd, evEq, sized, evBuiltin, ne_eq, not_true_eq_false, not_false_eq_true, TypeDesc.isAgg, TI.agg, Store.at_ne, Store.at_hd, Store.at_new1, evLoad, evRd, evStore, evFieldAddr, evIndexAddr, evBox, len27_os, len27_ds, len9, evMax2, evMin2, evFold, foldO, setRun, AV.okc, AV.one, AV.cells, gc, List.length_cons, List.length_nil, List.set_cons_zero, List.set_cons_succ, List.all_cons, List.all_nil, Bool.and_true, Bool.true_and, and_self, Option.isSome_some, tab_27, tab_68, tab_3, tab_4, tab_5, tab_9, tab_23, tab_28, tab_41, tab_70, tab_34, tab_22, tab_40, tab_44, Store.at_put, Store.at_push, Store.at_nw, List.length_set, List.length_append, List.getElem_toArray, List.size_toArray, List.getElem_cons_zero, List.getElem_cons_succ, h1]
  refine ⟨fun hc => hA _ _ ?_, fun hc => hB _ _ ?_⟩
  · simp only [Bool.not_eq_true', Bool.not_eq_eq_eq_not] at hc
    refine regEnd tok ?_
    simp only [Run_some, keepFrom, evOps, guardA, isCall, dstOk, evOp, ev, updO, upd, fr, constAV, constCell, pureR, cond_true, cond_false, decide_true, decide_false, Nat.reduceLT, Nat.reduceLeDiff, Nat.reduceEqDiff, Nat.reduceAdd, Nat.reduceMul, Nat.reduceSub, Nat.zero_add, Nat.add_zero, if_true, if_false, reduceIte, reduceCtorEq, List.getD_eq_getElem?_getD, List.getElem?_cons_zero, List.getElem?_cons_succ, List.getElem?_nil, Option.getD_some, Option.getD_none, Option.bind_some, List.getElem?_toArray, true_and, and_true, evBin, evInt, evNil, evPick, evUn, thenQ_normal, thenQ_ret, thenQ_exit, blockQ_normal, blockQ_ret, blockQ_exit, AV.bool.injEq, exists_eq_left', List.map_cons, List.map_nil, Option.map_some, Option.map_none, List.toList_toArray, Bool.true_eq_false, Bool.false_eq_true, Bool.not_true, Bool.not_false, beq_self_eq_true, beq_tr, beq_fa, Int.reduceEq, Int.reduceLT, Int.reduceLE, Int.reduceAdd, evEq, sized, evBuiltin, ne_eq, not_true_eq_false, not_false_eq_true, TypeDesc.isAgg, TI.agg, Store.at_ne, Store.at_hd, Store.at_new1, evLoad, evRd, evStore, evFieldAddr, evIndexAddr, evBox, len27_os, len27_ds, len9, evMax2, evMin2, evFold, foldO, setRun, AV.okc, AV.one, AV.cells, gc, List.length_cons, List.length_nil, List.set_cons_zero, List.set_cons_succ, List.all_cons, List.all_nil, Bool.and_true, Bool.true_and, and_self, Option.isSome_some, tab_27, tab_68, tab_3, tab_4, tab_5, tab_9, tab_23, tab_28, tab_41, tab_70, tab_34, tab_22, tab_40, tab_44, Store.at_put, Store.at_push, Store.at_nw, List.length_set, List.length_append, List.getElem_toArray, List.size_toArray, List.getElem_cons_zero, List.getElem_cons_succ, h1]
    refine ⟨_, rfl, rfl, ?_⟩
    rw [← dput_box h (by simp [D.cut, hc])]
    simp [dcells, D.cut, hc]
  · simp only [Bool.not_eq_false', Bool.not_eq_eq_eq_not] at hc
    refine awp_skip ⟨_, rfl, rfl, ?_⟩
    simp only [D.cut, hc, if_true]
    simp [D.cut, show d.dead = true by simpa using hc, dput_self h]

end Go.Proofs.Ytplddidoobjcnaa
