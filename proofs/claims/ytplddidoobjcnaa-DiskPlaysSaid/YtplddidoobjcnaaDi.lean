/- The law DiskCuts, told on the abstract side: it returns true. -/
import Derived.Test.YtplddidoobjcnaaDh
set_option linter.unusedSimpArgs false
set_option linter.unusedVariables false
set_option linter.constructorNameAsVariable false
namespace Go.Proofs.Ytplddidoobjcnaa
open AM

/-- Slices of bytes that came in. -/
def bcells (l : List (Bool × List UInt8)) : List AV := l.map fun p => .ds p.1 (bys p.2) p.2.length false

theorem idx22 {nl : Bool} {zs : List (Bool × List UInt8)} (hnl : nl = true → zs = []) {i : Nat} (hi : i < zs.length) : evIndexAddr tab 22 (.ds nl (bcells zs) zs.length false) (.int .i64 i) = some (.dp (bcells zs) i) := by
  have : nl = false := by
    cases nl with
    | false => rfl
    | true => rw [hnl rfl] at hi; simp at hi
  subst this
  simp [evIndexAddr, tab_22, tab_27, bcells, hi]

theorem ld22 {zs : List (Bool × List UInt8)} {i : Nat} (hi : i < zs.length) (σ : Store) : evLoad tab 27 (.dp (bcells zs) i) σ = some (.ds zs[i].1 (bys zs[i].2) zs[i].2.length false) := by
  simp [evLoad, tab_27, evRd, TI.agg, TypeDesc.isAgg, bcells, hi, gc]

theorem len22 (nl : Bool) (cs : List AV) (len : Nat) (t : Bool) (σ : Store) : evLen tab 22 (.ds nl cs len t) σ = some (.int .i64 len) := rfl

theorem cut9 {s : List UInt8} {m : Int} (h0 : 0 ≤ m) (h1 : m ≤ s.length) : evSlice tab 9 (.str s) none (some (.int .i64 m)) none = some (.str (s.take m.toNat)) := by
  simp [evSlice, tab_9, optI, h0, h1]

structure CutInv (c : Nat) (all : List UInt8) (d : D) : Prop where
  room : d.room = 65536
  b : d.b = all.take c
  dead : d.dead = decide (c < all.length)
  left : d.dead = false → d.left = c - all.length

theorem cut_step {c : Nat} {all x : List UInt8} {d : D} (h : CutInv c all d) (ha : all.length ≤ 3000) (hx : x.length ≤ 100) :
    CutInv c (all ++ x) (d.append x).1 ∧ (d.append x).2.2 = if all.length + x.length ≤ c then 0 else 17 := by
  obtain ⟨h1, h2, h3, h4⟩ := h
  have hb : d.b.length ≤ 3000 := by rw [h2]; simp; omega
  by_cases hd : c < all.length
  · have hdd : d.dead = true := by simp [h3, hd]
    have e : d.append x = (d, 0, 17) := by simp only [D.append, hdd, if_true]
    rw [e]
    refine ⟨⟨h1, ?_, ?_, fun h => ?_⟩, ?_⟩
    · rw [h2, List.take_append_of_le_length (by omega)]
    · simp [hdd]; omega
    · rw [hdd] at h; cases h
    · rw [if_neg (by omega)]
  · have hdd : d.dead = false := by simp [h3, hd]
    have hl := h4 hdd
    have hall : d.b = all := by rw [h2, List.take_of_length_le (by omega)]
    by_cases hf : all.length + x.length ≤ c
    · have e : d.append x = ({ d.app x with left := d.left - x.length }, 1, 0) := by
        simp only [D.append, hdd, Bool.false_eq_true, if_false]
        rw [if_neg (by omega), if_neg (by omega), if_pos (show 0 ≤ d.left by omega)]
      rw [e]
      refine ⟨⟨h1, ?_, ?_, fun h => ?_⟩, ?_⟩
      · simp only [D.app, hall]; rw [List.take_of_length_le (by simp; omega)]
      · simp [D.app, hdd]; omega
      · simp only [List.length_append]; omega
      · rw [if_pos hf]
    · have e : d.append x = ({ d.app (x.take d.left.toNat) with dead := true }, 1, 17) := by
        simp only [D.append, hdd, Bool.false_eq_true, if_false]
        rw [if_neg (by omega), if_pos (by omega)]
      rw [e]
      refine ⟨⟨h1, ?_, ?_, fun h => ?_⟩, ?_⟩
      · simp only [D.app, hall]
        rw [List.take_append, List.take_of_length_le (l := all) (by omega)]
        congr 2; omega
      · simp; omega
      · cases h
      · rw [if_neg hf]

def CutsI (a1 : Int) (nl : Bool) (zs : List (Bool × List UInt8)) (c : Nat) (m : Nat) (F : Fr) (σ : Store) : Prop :=
  ∃ (i ver : Nat) (d : D) (all : List UInt8) (x y z : AV), m + i = zs.length ∧ all.length ≤ 100 * i ∧ i ≤ 30 ∧ Dk σ 0 1 ver d ∧ CutInv c all d ∧
    keepFrom F 0 10 = [.ds nl (bcells zs) zs.length false, .int .i64 a1, x, y, .bool false, .op 0 0 0, .int .i64 c, .str all, .int .i64 i, z]

theorem cuts_ev (a1 : Int) (nl : Bool) (zs : List (Bool × List UInt8)) (hnl : nl = true → zs = []) (hlen : zs.length < 9223372036854775808) (hlens : ∀ p ∈ zs, p.2.length < 9223372036854775808) :
    ACalls Try.prog 3 [.ds nl (bcells zs) zs.length false, .int .i64 a1] [] fun r σ' => r = .bool true := by
  have hp := place_bd a1 400 (by decide)
  refine acalls_body (rs := [.tmp 4]) tok Try.func3 rfl Try.ntmps3 rfl Try.call3 (by simp) ?_
  refine reg tok 5 fun K hK => ?_
  simp only [Run_some, keepFrom, evOps, guardA, isCall, dstOk, evOp, ev, updO, upd, fr, constAV, constCell, pureR, cond_true, cond_false, decide_true, decide_false, Nat.reduceLT, Nat.reduceLeDiff, Nat.reduceEqDiff, Nat.reduceAdd, Nat.reduceMul, Nat.reduceSub, Nat.zero_add, Nat.add_zero, if_true, if_false, reduceIte, reduceCtorEq, List.getD_eq_getElem?_getD, List.getElem?_cons_zero, List.getElem?_cons_succ, List.getElem?_nil, Option.getD_some, Option.getD_none, Option.bind_some, List.getElem?_toArray, true_and, and_true, evBin, evInt, evNil, evPick, evUn, thenQ_normal, thenQ_ret, thenQ_exit, blockQ_normal, blockQ_ret, blockQ_exit, AV.bool.injEq, exists_eq_left', List.map_cons, List.map_nil, Option.map_some, Option.map_none, List.toList_toArray, Bool.true_eq_false, Bool.false_eq_true, Bool.not_true, Bool.not_false, beq_self_eq_true, beq_tr, beq_fa, Int.reduceEq, Int.reduceLT, Int.reduceLE, Int.reduceAdd, evEq, sized, evBuiltin, ne_eq, not_true_eq_false, not_false_eq_true]
  refine hK _ _ ?_
  clear hK K
  refine regCalls fun K hK => ?_
  refine opsRun tok ?_
  simp only [Run_some, keepFrom, evOps, guardA, isCall, dstOk, evOp, ev, updO, upd, fr, constAV, constCell, pureR, cond_true, cond_false, decide_true, decide_false, Nat.reduceLT, Nat.reduceLeDiff, Nat.reduceEqDiff, Nat.reduceAdd, Nat.reduceMul, Nat.reduceSub, Nat.zero_add, Nat.add_zero, if_true, if_false, reduceIte, reduceCtorEq, List.getD_eq_getElem?_getD, List.getElem?_cons_zero, List.getElem?_cons_succ, List.getElem?_nil, Option.getD_some, Option.getD_none, Option.bind_some, List.getElem?_toArray, true_and, and_true, evBin, evInt, evNil, evPick, evUn, thenQ_normal, thenQ_ret, thenQ_exit, blockQ_normal, blockQ_ret, blockQ_exit, AV.bool.injEq, exists_eq_left', List.map_cons, List.map_nil, Option.map_some, Option.map_none, List.toList_toArray, Bool.true_eq_false, Bool.false_eq_true, Bool.not_true, Bool.not_false, beq_self_eq_true, beq_tr, beq_fa, Int.reduceEq, Int.reduceLT, Int.reduceLE, Int.reduceAdd, evEq, sized, evBuiltin, ne_eq, not_true_eq_false, not_false_eq_true]
  refine opsWp_callD rfl rfl rfl (new_ev 65536 []) ?_
  rintro _ _ ⟨rfl, rfl⟩
  have hD := new_dk 65536 []
  simp only [List.length_nil, List.nil_append, Nat.zero_add] at hD ⊢
  generalize [AObj.cells 0 (dcells 1 0 (D.fresh 65536)), .cells 0 []] = σ1 at hD
  refine opsRun tok ?_
  simp only [Run_some, keepFrom, evOps, guardA, isCall, dstOk, evOp, ev, updO, upd, fr, constAV, constCell, pureR, cond_true, cond_false, decide_true, decide_false, Nat.reduceLT, Nat.reduceLeDiff, Nat.reduceEqDiff, Nat.reduceAdd, Nat.reduceMul, Nat.reduceSub, Nat.zero_add, Nat.add_zero, if_true, if_false, reduceIte, reduceCtorEq, List.getD_eq_getElem?_getD, List.getElem?_cons_zero, List.getElem?_cons_succ, List.getElem?_nil, Option.getD_some, Option.getD_none, Option.bind_some, List.getElem?_toArray, true_and, and_true, evBin, evInt, evNil, evPick, evUn, thenQ_normal, thenQ_ret, thenQ_exit, blockQ_normal, blockQ_ret, blockQ_exit, AV.bool.injEq, exists_eq_left', List.map_cons, List.map_nil, Option.map_some, Option.map_none, List.toList_toArray, Bool.true_eq_false, Bool.false_eq_true, Bool.not_true, Bool.not_false, beq_self_eq_true, beq_tr, beq_fa, Int.reduceEq, Int.reduceLT, Int.reduceLE, Int.reduceAdd, evEq, sized, evBuiltin, ne_eq, not_true_eq_false, not_false_eq_true]
  refine opsWp_nil ?_
  refine hK _ _ (awp_keepN 6 ?_)
  clear hK K
  simp only [Run_some, keepFrom, evOps, guardA, isCall, dstOk, evOp, ev, updO, upd, fr, constAV, constCell, pureR, cond_true, cond_false, decide_true, decide_false, Nat.reduceLT, Nat.reduceLeDiff, Nat.reduceEqDiff, Nat.reduceAdd, Nat.reduceMul, Nat.reduceSub, Nat.zero_add, Nat.add_zero, if_true, if_false, reduceIte, reduceCtorEq, List.getD_eq_getElem?_getD, List.getElem?_cons_zero, List.getElem?_cons_succ, List.getElem?_nil, Option.getD_some, Option.getD_none, Option.bind_some, List.getElem?_toArray, true_and, and_true, evBin, evInt, evNil, evPick, evUn, thenQ_normal, thenQ_ret, thenQ_exit, blockQ_normal, blockQ_ret, blockQ_exit, AV.bool.injEq, exists_eq_left', List.map_cons, List.map_nil, Option.map_some, Option.map_none, List.toList_toArray, Bool.true_eq_false, Bool.false_eq_true, Bool.not_true, Bool.not_false, beq_self_eq_true, beq_tr, beq_fa, Int.reduceEq, Int.reduceLT, Int.reduceLE, Int.reduceAdd, evEq, sized, evBuiltin, ne_eq, not_true_eq_false, not_false_eq_true]
  refine awp_seq_k fun Z hZ => ?_
  refine regIf tok 6 fun A B hA hB => ?_
  simp only [Run_some, keepFrom, evOps, guardA, isCall, dstOk, evOp, ev, updO, upd, fr, constAV, constCell, pureR, cond_true, cond_false, decide_true, decide_false, Nat.reduceLT, Nat.reduceLeDiff, Nat.reduceEqDiff, Nat.reduceAdd, Nat.reduceMul, Nat.reduceSub, Nat.zero_add, Nat.add_zero, if_true, if_false, reduceIte, reduceCtorEq, List.getD_eq_getElem?_getD, List.getElem?_cons_zero, List.getElem?_cons_succ, List.getElem?_nil, Option.getD_some, Option.getD_none, Option.bind_some, List.getElem?_toArray, true_and, and_true, evBin, evInt, evNil, evPick, evUn, thenQ_normal, thenQ_ret, thenQ_exit, blockQ_normal, blockQ_ret, blockQ_exit, AV.bool.injEq, exists_eq_left', List.map_cons, List.map_nil, Option.map_some, Option.map_none, List.toList_toArray, Bool.true_eq_false, Bool.false_eq_true, Bool.not_true, Bool.not_false, beq_self_eq_true, beq_tr, beq_fa, Int.reduceEq, Int.reduceLT, Int.reduceLE, Int.reduceAdd, evEq, sized, evBuiltin, ne_eq, not_true_eq_false, not_false_eq_true, TypeDesc.isAgg, TI.agg, Store.at_ne, Store.at_hd, Store.at_new1, evLoad, evRd, evStore, evFieldAddr, evIndexAddr, evBox, len27_os, len27_ds, len9, evMax2, evMin2, evFold, foldO, setRun, AV.okc, AV.one, AV.cells, gc, List.length_cons, List.length_nil, List.set_cons_zero, List.set_cons_succ, List.all_cons, List.all_nil, Bool.and_true, Bool.true_and, and_self, Option.isSome_some, tab_27, tab_68, tab_3, tab_4, tab_5, tab_9, tab_23, tab_28, tab_41, tab_70, tab_34, tab_22, tab_40, tab_44, Store.at_put, Store.at_push, Store.at_nw, List.length_set, List.length_append, List.getElem_toArray, List.size_toArray, List.getElem_cons_zero, List.getElem_cons_succ]
  refine ⟨fun e => e.elim, fun _ => hB _ _ ?_⟩
  clear hA hB A B
  refine awp_skip ?_
  simp only [Run_some, keepFrom, evOps, guardA, isCall, dstOk, evOp, ev, updO, upd, fr, constAV, constCell, pureR, cond_true, cond_false, decide_true, decide_false, Nat.reduceLT, Nat.reduceLeDiff, Nat.reduceEqDiff, Nat.reduceAdd, Nat.reduceMul, Nat.reduceSub, Nat.zero_add, Nat.add_zero, if_true, if_false, reduceIte, reduceCtorEq, List.getD_eq_getElem?_getD, List.getElem?_cons_zero, List.getElem?_cons_succ, List.getElem?_nil, Option.getD_some, Option.getD_none, Option.bind_some, List.getElem?_toArray, true_and, and_true, evBin, evInt, evNil, evPick, evUn, thenQ_normal, thenQ_ret, thenQ_exit, blockQ_normal, blockQ_ret, blockQ_exit, AV.bool.injEq, exists_eq_left', List.map_cons, List.map_nil, Option.map_some, Option.map_none, List.toList_toArray, Bool.true_eq_false, Bool.false_eq_true, Bool.not_true, Bool.not_false, beq_self_eq_true, beq_tr, beq_fa, Int.reduceEq, Int.reduceLT, Int.reduceLE, Int.reduceAdd, evEq, sized, evBuiltin, ne_eq, not_true_eq_false, not_false_eq_true]
  refine hZ _ _ ?_
  clear hZ Z
  refine regCalls fun K hK => ?_
  refine opsRun tok ?_
  simp only [Run_some, keepFrom, evOps, guardA, isCall, dstOk, evOp, ev, updO, upd, fr, constAV, constCell, pureR, cond_true, cond_false, decide_true, decide_false, Nat.reduceLT, Nat.reduceLeDiff, Nat.reduceEqDiff, Nat.reduceAdd, Nat.reduceMul, Nat.reduceSub, Nat.zero_add, Nat.add_zero, if_true, if_false, reduceIte, reduceCtorEq, List.getD_eq_getElem?_getD, List.getElem?_cons_zero, List.getElem?_cons_succ, List.getElem?_nil, Option.getD_some, Option.getD_none, Option.bind_some, List.getElem?_toArray, true_and, and_true, evBin, evInt, evNil, evPick, evUn, thenQ_normal, thenQ_ret, thenQ_exit, blockQ_normal, blockQ_ret, blockQ_exit, AV.bool.injEq, exists_eq_left', List.map_cons, List.map_nil, Option.map_some, Option.map_none, List.toList_toArray, Bool.true_eq_false, Bool.false_eq_true, Bool.not_true, Bool.not_false, beq_self_eq_true, beq_tr, beq_fa, Int.reduceEq, Int.reduceLT, Int.reduceLE, Int.reduceAdd, evEq, sized, evBuiltin, ne_eq, not_true_eq_false, not_false_eq_true]
  refine opsWp_callD rfl rfl rfl (place_ev a1 400 σ1 (by decide) (by decide)) ?_
  rintro _ σ1 ⟨rfl, rfl⟩
  refine opsRun tok ?_
  simp only [Run_some, keepFrom, evOps, guardA, isCall, dstOk, evOp, ev, updO, upd, fr, constAV, constCell, pureR, cond_true, cond_false, decide_true, decide_false, Nat.reduceLT, Nat.reduceLeDiff, Nat.reduceEqDiff, Nat.reduceAdd, Nat.reduceMul, Nat.reduceSub, Nat.zero_add, Nat.add_zero, if_true, if_false, reduceIte, reduceCtorEq, List.getD_eq_getElem?_getD, List.getElem?_cons_zero, List.getElem?_cons_succ, List.getElem?_nil, Option.getD_some, Option.getD_none, Option.bind_some, List.getElem?_toArray, true_and, and_true, evBin, evInt, evNil, evPick, evUn, thenQ_normal, thenQ_ret, thenQ_exit, blockQ_normal, blockQ_ret, blockQ_exit, AV.bool.injEq, exists_eq_left', List.map_cons, List.map_nil, Option.map_some, Option.map_none, List.toList_toArray, Bool.true_eq_false, Bool.false_eq_true, Bool.not_true, Bool.not_false, beq_self_eq_true, beq_tr, beq_fa, Int.reduceEq, Int.reduceLT, Int.reduceLE, Int.reduceAdd, evEq, sized, evBuiltin, ne_eq, not_true_eq_false, not_false_eq_true]
  refine opsWp_nil ?_
  refine hK _ _ (awp_keepN 7 ?_)
  clear hK K
  simp only [Run_some, keepFrom, evOps, guardA, isCall, dstOk, evOp, ev, updO, upd, fr, constAV, constCell, pureR, cond_true, cond_false, decide_true, decide_false, Nat.reduceLT, Nat.reduceLeDiff, Nat.reduceEqDiff, Nat.reduceAdd, Nat.reduceMul, Nat.reduceSub, Nat.zero_add, Nat.add_zero, if_true, if_false, reduceIte, reduceCtorEq, List.getD_eq_getElem?_getD, List.getElem?_cons_zero, List.getElem?_cons_succ, List.getElem?_nil, Option.getD_some, Option.getD_none, Option.bind_some, List.getElem?_toArray, true_and, and_true, evBin, evInt, evNil, evPick, evUn, thenQ_normal, thenQ_ret, thenQ_exit, blockQ_normal, blockQ_ret, blockQ_exit, AV.bool.injEq, exists_eq_left', List.map_cons, List.map_nil, Option.map_some, Option.map_none, List.toList_toArray, Bool.true_eq_false, Bool.false_eq_true, Bool.not_true, Bool.not_false, beq_self_eq_true, beq_tr, beq_fa, Int.reduceEq, Int.reduceLT, Int.reduceLE, Int.reduceAdd, evEq, sized, evBuiltin, ne_eq, not_true_eq_false, not_false_eq_true]
  obtain ⟨c, hc⟩ : ∃ c : Nat, place a1 400 = c := ⟨(place a1 400).toNat, by omega⟩
  rw [hc] at hp ⊢
  refine regCalls fun K hK => ?_
  refine opsRun tok ?_
  simp only [Run_some, keepFrom, evOps, guardA, isCall, dstOk, evOp, ev, updO, upd, fr, constAV, constCell, pureR, cond_true, cond_false, decide_true, decide_false, Nat.reduceLT, Nat.reduceLeDiff, Nat.reduceEqDiff, Nat.reduceAdd, Nat.reduceMul, Nat.reduceSub, Nat.zero_add, Nat.add_zero, if_true, if_false, reduceIte, reduceCtorEq, List.getD_eq_getElem?_getD, List.getElem?_cons_zero, List.getElem?_cons_succ, List.getElem?_nil, Option.getD_some, Option.getD_none, Option.bind_some, List.getElem?_toArray, true_and, and_true, evBin, evInt, evNil, evPick, evUn, thenQ_normal, thenQ_ret, thenQ_exit, blockQ_normal, blockQ_ret, blockQ_exit, AV.bool.injEq, exists_eq_left', List.map_cons, List.map_nil, Option.map_some, Option.map_none, List.toList_toArray, Bool.true_eq_false, Bool.false_eq_true, Bool.not_true, Bool.not_false, beq_self_eq_true, beq_tr, beq_fa, Int.reduceEq, Int.reduceLT, Int.reduceLE, Int.reduceAdd, evEq, sized, evBuiltin, ne_eq, not_true_eq_false, not_false_eq_true]
  refine opsWp_callD rfl rfl rfl (cut_ev hD c) ?_
  rintro _ _ ⟨rfl, rfl⟩
  have hD2 := hD.put (ver' := 0) (hD.ok.cut (n := (c : Int)) (by omega))
  generalize dput σ1 0 1 0 ((D.fresh 65536).cut c) = σ2 at hD2
  refine opsRun tok ?_
  simp only [Run_some, keepFrom, evOps, guardA, isCall, dstOk, evOp, ev, updO, upd, fr, constAV, constCell, pureR, cond_true, cond_false, decide_true, decide_false, Nat.reduceLT, Nat.reduceLeDiff, Nat.reduceEqDiff, Nat.reduceAdd, Nat.reduceMul, Nat.reduceSub, Nat.zero_add, Nat.add_zero, if_true, if_false, reduceIte, reduceCtorEq, List.getD_eq_getElem?_getD, List.getElem?_cons_zero, List.getElem?_cons_succ, List.getElem?_nil, Option.getD_some, Option.getD_none, Option.bind_some, List.getElem?_toArray, true_and, and_true, evBin, evInt, evNil, evPick, evUn, thenQ_normal, thenQ_ret, thenQ_exit, blockQ_normal, blockQ_ret, blockQ_exit, AV.bool.injEq, exists_eq_left', List.map_cons, List.map_nil, Option.map_some, Option.map_none, List.toList_toArray, Bool.true_eq_false, Bool.false_eq_true, Bool.not_true, Bool.not_false, beq_self_eq_true, beq_tr, beq_fa, Int.reduceEq, Int.reduceLT, Int.reduceLE, Int.reduceAdd, evEq, sized, evBuiltin, ne_eq, not_true_eq_false, not_false_eq_true]
  refine opsWp_nil ?_
  refine hK _ _ (awp_keepN 7 ?_)
  clear hK K
  simp only [Run_some, keepFrom, evOps, guardA, isCall, dstOk, evOp, ev, updO, upd, fr, constAV, constCell, pureR, cond_true, cond_false, decide_true, decide_false, Nat.reduceLT, Nat.reduceLeDiff, Nat.reduceEqDiff, Nat.reduceAdd, Nat.reduceMul, Nat.reduceSub, Nat.zero_add, Nat.add_zero, if_true, if_false, reduceIte, reduceCtorEq, List.getD_eq_getElem?_getD, List.getElem?_cons_zero, List.getElem?_cons_succ, List.getElem?_nil, Option.getD_some, Option.getD_none, Option.bind_some, List.getElem?_toArray, true_and, and_true, evBin, evInt, evNil, evPick, evUn, thenQ_normal, thenQ_ret, thenQ_exit, blockQ_normal, blockQ_ret, blockQ_exit, AV.bool.injEq, exists_eq_left', List.map_cons, List.map_nil, Option.map_some, Option.map_none, List.toList_toArray, Bool.true_eq_false, Bool.false_eq_true, Bool.not_true, Bool.not_false, beq_self_eq_true, beq_tr, beq_fa, Int.reduceEq, Int.reduceLT, Int.reduceLE, Int.reduceAdd, evEq, sized, evBuiltin, ne_eq, not_true_eq_false, not_false_eq_true]
  refine reg tok 10 fun K hK => ?_
  simp only [Run_some, keepFrom, evOps, guardA, isCall, dstOk, evOp, ev, updO, upd, fr, constAV, constCell, pureR, cond_true, cond_false, decide_true, decide_false, Nat.reduceLT, Nat.reduceLeDiff, Nat.reduceEqDiff, Nat.reduceAdd, Nat.reduceMul, Nat.reduceSub, Nat.zero_add, Nat.add_zero, if_true, if_false, reduceIte, reduceCtorEq, List.getD_eq_getElem?_getD, List.getElem?_cons_zero, List.getElem?_cons_succ, List.getElem?_nil, Option.getD_some, Option.getD_none, Option.bind_some, List.getElem?_toArray, true_and, and_true, evBin, evInt, evNil, evPick, evUn, thenQ_normal, thenQ_ret, thenQ_exit, blockQ_normal, blockQ_ret, blockQ_exit, AV.bool.injEq, exists_eq_left', List.map_cons, List.map_nil, Option.map_some, Option.map_none, List.toList_toArray, Bool.true_eq_false, Bool.false_eq_true, Bool.not_true, Bool.not_false, beq_self_eq_true, beq_tr, beq_fa, Int.reduceEq, Int.reduceLT, Int.reduceLE, Int.reduceAdd, evEq, sized, evBuiltin, ne_eq, not_true_eq_false, not_false_eq_true]
  refine hK _ _ ?_
  clear hK K
  refine awp_seq_k fun Z hZ => ?_
  refine reg tok 10 fun K hK => ?_
  simp only [Run_some, keepFrom, evOps, guardA, isCall, dstOk, evOp, ev, updO, upd, fr, constAV, constCell, pureR, cond_true, cond_false, decide_true, decide_false, Nat.reduceLT, Nat.reduceLeDiff, Nat.reduceEqDiff, Nat.reduceAdd, Nat.reduceMul, Nat.reduceSub, Nat.zero_add, Nat.add_zero, if_true, if_false, reduceIte, reduceCtorEq, List.getD_eq_getElem?_getD, List.getElem?_cons_zero, List.getElem?_cons_succ, List.getElem?_nil, Option.getD_some, Option.getD_none, Option.bind_some, List.getElem?_toArray, true_and, and_true, evBin, evInt, evNil, evPick, evUn, thenQ_normal, thenQ_ret, thenQ_exit, blockQ_normal, blockQ_ret, blockQ_exit, AV.bool.injEq, exists_eq_left', List.map_cons, List.map_nil, Option.map_some, Option.map_none, List.toList_toArray, Bool.true_eq_false, Bool.false_eq_true, Bool.not_true, Bool.not_false, beq_self_eq_true, beq_tr, beq_fa, Int.reduceEq, Int.reduceLT, Int.reduceLE, Int.reduceAdd, evEq, sized, evBuiltin, ne_eq, not_true_eq_false, not_false_eq_true]
  refine hK _ _ ?_
  clear hK K
  refine awp_block (awp_loop (CutsI a1 nl zs c) zs.length ?_ ?_)
  · refine ⟨0, 0, (D.fresh 65536).cut c, [], .u, .u, .u, rfl, Nat.zero_le _, Nat.zero_le _, hD2, ⟨rfl, ?_, ?_, fun _ => ?_⟩, rfl⟩
    · simp [D.cut, D.fresh]
    · simp [D.cut, D.fresh]
    · simp [D.cut, D.fresh]; omega
  clear hD2
  have hfin : ∀ (i ver : Nat) (d : D) (all : List UInt8) (x y z : AV) (σ : Store), Dk σ 0 1 ver d → CutInv c all d → all.length ≤ 3000 →
      Z (fr [.ds nl (bcells zs) zs.length false, .int .i64 a1, x, y, .bool false, .op 0 0 0, .int .i64 c, .str all, .int .i64 i, z]) σ := by
    intro i ver d all x y z σ hD hI hal
    refine hZ _ _ ?_
    clear hZ Z
    have e1 : evSlice tab 9 (.str all) none (some (.int .i64 (if (all.length : Int) < c then all.length else c))) none = some (.str d.b) := by
      rw [cut9 (by split <;> omega) (by split <;> omega), hI.b]
      congr 2
      split
      · rw [List.take_of_length_le (by omega), List.take_of_length_le (by omega)]
      · congr 1
    have e2 : d.dead = decide ((c : Int) < all.length) := by rw [hI.dead]; simp
    refine awp_seq_k fun K hK => ?_
    refine DW.start (T := tab) [.any, .eff, .at [], .any, .any, .any, .at [1], .any, .any, .any, .any, .any, .eff, .any, .at [1], .any, .any, .any, .any, .any, .eff, .any, .any] ?_
    refine DW.run tok ?_
    simp (maxSteps := 2000000) only [Run_some, keepFrom, evOps, guardA, isCall, dstOk, evOp, ev, updO, upd, fr, constAV, constCell, pureR, cond_true, cond_false, decide_true, decide_false, Nat.reduceLT, Nat.reduceLeDiff, Nat.reduceEqDiff, Nat.reduceAdd, Nat.reduceMul, Nat.reduceSub, Nat.zero_add, Nat.add_zero, if_true, if_false, reduceIte, reduceCtorEq, List.getD_eq_getElem?_getD, List.getElem?_cons_zero, List.getElem?_cons_succ, List.getElem?_nil, Option.getD_some, Option.getD_none, Option.bind_some, List.getElem?_toArray, true_and, and_true, evBin, evInt, evNil, evPick, evUn, thenQ_normal, thenQ_ret, thenQ_exit, blockQ_normal, blockQ_ret, blockQ_exit, AV.bool.injEq, exists_eq_left', List.map_cons, List.map_nil, Option.map_some, Option.map_none, List.toList_toArray, Bool.true_eq_false, Bool.false_eq_true, Bool.not_true, Bool.not_false, beq_self_eq_true, beq_tr, beq_fa, Int.reduceEq, Int.reduceLT, Int.reduceLE, Int.reduceAdd, evEq, sized, evBuiltin, ne_eq, not_true_eq_false, not_false_eq_true, TypeDesc.isAgg, TI.agg, Store.at_ne, Store.at_hd, Store.at_new1, evLoad, evRd, evStore, evFieldAddr, evIndexAddr, evBox, len27_os, len27_ds, len9, evMax2, evMin2, evFold, foldO, setRun, AV.okc, AV.one, AV.cells, gc, List.length_cons, List.length_nil, List.set_cons_zero, List.set_cons_succ, List.all_cons, List.all_nil, Bool.and_true, Bool.true_and, and_self, Option.isSome_some, tab_27, tab_68, tab_3, tab_4, tab_5, tab_9, tab_23, tab_28, tab_41, tab_70, tab_34, tab_22, tab_40, tab_44, Store.at_put, Store.at_push, Store.at_nw, List.length_set, List.length_append, List.getElem_toArray, List.size_toArray, List.getElem_cons_zero, List.getElem_cons_succ, exists_eq, exists_eq', RunD_some, evD, memFree, stabs, Option.some.injEq, Prod.mk.injEq, implies_true, forall_const]
    refine DW.call rfl rfl rfl (bytes_ev hD) ?_
    have hc9 := fun τ : Store => conv9 (nl := false) (l := d.b) (n := d.b.length) rfl (t := true) τ
    refine DW.run tok ?_
    simp (maxSteps := 2000000) only [Run_some, keepFrom, evOps, guardA, isCall, dstOk, evOp, ev, updO, upd, fr, constAV, constCell, pureR, cond_true, cond_false, decide_true, decide_false, Nat.reduceLT, Nat.reduceLeDiff, Nat.reduceEqDiff, Nat.reduceAdd, Nat.reduceMul, Nat.reduceSub, Nat.zero_add, Nat.add_zero, if_true, if_false, reduceIte, reduceCtorEq, List.getD_eq_getElem?_getD, List.getElem?_cons_zero, List.getElem?_cons_succ, List.getElem?_nil, Option.getD_some, Option.getD_none, Option.bind_some, List.getElem?_toArray, true_and, and_true, evBin, evInt, evNil, evPick, evUn, thenQ_normal, thenQ_ret, thenQ_exit, blockQ_normal, blockQ_ret, blockQ_exit, AV.bool.injEq, exists_eq_left', List.map_cons, List.map_nil, Option.map_some, Option.map_none, List.toList_toArray, Bool.true_eq_false, Bool.false_eq_true, Bool.not_true, Bool.not_false, beq_self_eq_true, beq_tr, beq_fa, Int.reduceEq, Int.reduceLT, Int.reduceLE, Int.reduceAdd, evEq, sized, evBuiltin, ne_eq, not_true_eq_false, not_false_eq_true, TypeDesc.isAgg, TI.agg, Store.at_ne, Store.at_hd, Store.at_new1, evLoad, evRd, evStore, evFieldAddr, evIndexAddr, evBox, len27_os, len27_ds, len9, evMax2, evMin2, evFold, foldO, setRun, AV.okc, AV.one, AV.cells, gc, List.length_cons, List.length_nil, List.set_cons_zero, List.set_cons_succ, List.all_cons, List.all_nil, Bool.and_true, Bool.true_and, and_self, Option.isSome_some, tab_27, tab_68, tab_3, tab_4, tab_5, tab_9, tab_23, tab_28, tab_41, tab_70, tab_34, tab_22, tab_40, tab_44, Store.at_put, Store.at_push, Store.at_nw, List.length_set, List.length_append, List.getElem_toArray, List.size_toArray, List.getElem_cons_zero, List.getElem_cons_succ, exists_eq, exists_eq', RunD_some, evD, memFree, stabs, Option.some.injEq, Prod.mk.injEq, implies_true, forall_const, hc9, evStr, e1]
    refine DW.call rfl rfl rfl (dead_ev hD) ?_
    rw [e2]
    refine DW.run tok ?_
    simp (maxSteps := 2000000) only [Run_some, keepFrom, evOps, guardA, isCall, dstOk, evOp, ev, updO, upd, fr, constAV, constCell, pureR, cond_true, cond_false, decide_true, decide_false, Nat.reduceLT, Nat.reduceLeDiff, Nat.reduceEqDiff, Nat.reduceAdd, Nat.reduceMul, Nat.reduceSub, Nat.zero_add, Nat.add_zero, if_true, if_false, reduceIte, reduceCtorEq, List.getD_eq_getElem?_getD, List.getElem?_cons_zero, List.getElem?_cons_succ, List.getElem?_nil, Option.getD_some, Option.getD_none, Option.bind_some, List.getElem?_toArray, true_and, and_true, evBin, evInt, evNil, evPick, evUn, thenQ_normal, thenQ_ret, thenQ_exit, blockQ_normal, blockQ_ret, blockQ_exit, AV.bool.injEq, exists_eq_left', List.map_cons, List.map_nil, Option.map_some, Option.map_none, List.toList_toArray, Bool.true_eq_false, Bool.false_eq_true, Bool.not_true, Bool.not_false, beq_self_eq_true, beq_tr, beq_fa, Int.reduceEq, Int.reduceLT, Int.reduceLE, Int.reduceAdd, evEq, sized, evBuiltin, ne_eq, not_true_eq_false, not_false_eq_true, TypeDesc.isAgg, TI.agg, Store.at_ne, Store.at_hd, Store.at_new1, evLoad, evRd, evStore, evFieldAddr, evIndexAddr, evBox, len27_os, len27_ds, len9, evMax2, evMin2, evFold, foldO, setRun, AV.okc, AV.one, AV.cells, gc, List.length_cons, List.length_nil, List.set_cons_zero, List.set_cons_succ, List.all_cons, List.all_nil, Bool.and_true, Bool.true_and, and_self, Option.isSome_some, tab_27, tab_68, tab_3, tab_4, tab_5, tab_9, tab_23, tab_28, tab_41, tab_70, tab_34, tab_22, tab_40, tab_44, Store.at_put, Store.at_push, Store.at_nw, List.length_set, List.length_append, List.getElem_toArray, List.size_toArray, List.getElem_cons_zero, List.getElem_cons_succ, exists_eq, exists_eq', RunD_some, evD, memFree, stabs, Option.some.injEq, Prod.mk.injEq, implies_true, forall_const]
    refine DW.call rfl rfl rfl (awake_ev σ) ?_
    refine DW.run tok ?_
    simp (maxSteps := 2000000) only [Run_some, keepFrom, evOps, guardA, isCall, dstOk, evOp, ev, updO, upd, fr, constAV, constCell, pureR, cond_true, cond_false, decide_true, decide_false, Nat.reduceLT, Nat.reduceLeDiff, Nat.reduceEqDiff, Nat.reduceAdd, Nat.reduceMul, Nat.reduceSub, Nat.zero_add, Nat.add_zero, if_true, if_false, reduceIte, reduceCtorEq, List.getD_eq_getElem?_getD, List.getElem?_cons_zero, List.getElem?_cons_succ, List.getElem?_nil, Option.getD_some, Option.getD_none, Option.bind_some, List.getElem?_toArray, true_and, and_true, evBin, evInt, evNil, evPick, evUn, thenQ_normal, thenQ_ret, thenQ_exit, blockQ_normal, blockQ_ret, blockQ_exit, AV.bool.injEq, exists_eq_left', List.map_cons, List.map_nil, Option.map_some, Option.map_none, List.toList_toArray, Bool.true_eq_false, Bool.false_eq_true, Bool.not_true, Bool.not_false, beq_self_eq_true, beq_tr, beq_fa, Int.reduceEq, Int.reduceLT, Int.reduceLE, Int.reduceAdd, evEq, sized, evBuiltin, ne_eq, not_true_eq_false, not_false_eq_true, TypeDesc.isAgg, TI.agg, Store.at_ne, Store.at_hd, Store.at_new1, evLoad, evRd, evStore, evFieldAddr, evIndexAddr, evBox, len27_os, len27_ds, len9, evMax2, evMin2, evFold, foldO, setRun, AV.okc, AV.one, AV.cells, gc, List.length_cons, List.length_nil, List.set_cons_zero, List.set_cons_succ, List.all_cons, List.all_nil, Bool.and_true, Bool.true_and, and_self, Option.isSome_some, tab_27, tab_68, tab_3, tab_4, tab_5, tab_9, tab_23, tab_28, tab_41, tab_70, tab_34, tab_22, tab_40, tab_44, Store.at_put, Store.at_push, Store.at_nw, List.length_set, List.length_append, List.getElem_toArray, List.size_toArray, List.getElem_cons_zero, List.getElem_cons_succ, exists_eq, exists_eq', RunD_some, evD, memFree, stabs, Option.some.injEq, Prod.mk.injEq, implies_true, forall_const]
    refine DW.fin tok (by decide +kernel) rfl ?_
    refine hK _ _ (awp_keepN 5 ?_)
    clear hK K
    simp only [Run_some, keepFrom, evOps, guardA, isCall, dstOk, evOp, ev, updO, upd, fr, constAV, constCell, pureR, cond_true, cond_false, decide_true, decide_false, Nat.reduceLT, Nat.reduceLeDiff, Nat.reduceEqDiff, Nat.reduceAdd, Nat.reduceMul, Nat.reduceSub, Nat.zero_add, Nat.add_zero, if_true, if_false, reduceIte, reduceCtorEq, List.getD_eq_getElem?_getD, List.getElem?_cons_zero, List.getElem?_cons_succ, List.getElem?_nil, Option.getD_some, Option.getD_none, Option.bind_some, List.getElem?_toArray, true_and, and_true, evBin, evInt, evNil, evPick, evUn, thenQ_normal, thenQ_ret, thenQ_exit, blockQ_normal, blockQ_ret, blockQ_exit, AV.bool.injEq, exists_eq_left', List.map_cons, List.map_nil, Option.map_some, Option.map_none, List.toList_toArray, Bool.true_eq_false, Bool.false_eq_true, Bool.not_true, Bool.not_false, beq_self_eq_true, beq_tr, beq_fa, Int.reduceEq, Int.reduceLT, Int.reduceLE, Int.reduceAdd, evEq, sized, evBuiltin, ne_eq, not_true_eq_false, not_false_eq_true]
    refine awp_ret ?_
    simp only [retQ, resAll, resOne, resAV, Option.some.injEq, Run_some, keepFrom, evOps, guardA, isCall, dstOk, evOp, ev, updO, upd, fr, constAV, constCell, pureR, cond_true, cond_false, decide_true, decide_false, Nat.reduceLT, Nat.reduceLeDiff, Nat.reduceEqDiff, Nat.reduceAdd, Nat.reduceMul, Nat.reduceSub, Nat.zero_add, Nat.add_zero, if_true, if_false, reduceIte, reduceCtorEq, List.getD_eq_getElem?_getD, List.getElem?_cons_zero, List.getElem?_cons_succ, List.getElem?_nil, Option.getD_some, Option.getD_none, Option.bind_some, List.getElem?_toArray, true_and, and_true, evBin, evInt, evNil, evPick, evUn, thenQ_normal, thenQ_ret, thenQ_exit, blockQ_normal, blockQ_ret, blockQ_exit, AV.bool.injEq, exists_eq_left', List.map_cons, List.map_nil, Option.map_some, Option.map_none, List.toList_toArray, Bool.true_eq_false, Bool.false_eq_true, Bool.not_true, Bool.not_false, beq_self_eq_true, beq_tr, beq_fa, Int.reduceEq, Int.reduceLT, Int.reduceLE, Int.reduceAdd, evEq, sized, evBuiltin, ne_eq, not_true_eq_false, not_false_eq_true]
  clear hZ
  rintro m F σ ⟨i, ver, d, all, x, y, z, hm, hal, hi30, hD, hI, hF⟩
  refine awp_keepN 10 ?_
  rw [hF]
  by_cases hi : i < zs.length
  · refine awp_seq_k fun Y hY => ?_
    refine regIf tok 10 fun A B hA hB => ?_
    simp only [Run_some, keepFrom, evOps, guardA, isCall, dstOk, evOp, ev, updO, upd, fr, constAV, constCell, pureR, cond_true, cond_false, decide_true, decide_false, Nat.reduceLT, Nat.reduceLeDiff, Nat.reduceEqDiff, Nat.reduceAdd, Nat.reduceMul, Nat.reduceSub, Nat.zero_add, Nat.add_zero, if_true, if_false, reduceIte, reduceCtorEq, List.getD_eq_getElem?_getD, List.getElem?_cons_zero, List.getElem?_cons_succ, List.getElem?_nil, Option.getD_some, Option.getD_none, Option.bind_some, List.getElem?_toArray, true_and, and_true, evBin, evInt, evNil, evPick, evUn, thenQ_normal, thenQ_ret, thenQ_exit, blockQ_normal, blockQ_ret, blockQ_exit, AV.bool.injEq, exists_eq_left', List.map_cons, List.map_nil, Option.map_some, Option.map_none, List.toList_toArray, Bool.true_eq_false, Bool.false_eq_true, Bool.not_true, Bool.not_false, beq_self_eq_true, beq_tr, beq_fa, Int.reduceEq, Int.reduceLT, Int.reduceLE, Int.reduceAdd, evEq, sized, evBuiltin, ne_eq, not_true_eq_false, not_false_eq_true, len22, hi, Int.ofNat_lt]
    refine ⟨fun hc => hA _ _ ?_, fun hc => hB _ _ ?_⟩
    · clear hA hB A B
      simp only [decide_eq_true_eq] at hc
      refine awp_skip ?_
      simp only [Run_some, keepFrom, evOps, guardA, isCall, dstOk, evOp, ev, updO, upd, fr, constAV, constCell, pureR, cond_true, cond_false, decide_true, decide_false, Nat.reduceLT, Nat.reduceLeDiff, Nat.reduceEqDiff, Nat.reduceAdd, Nat.reduceMul, Nat.reduceSub, Nat.zero_add, Nat.add_zero, if_true, if_false, reduceIte, reduceCtorEq, List.getD_eq_getElem?_getD, List.getElem?_cons_zero, List.getElem?_cons_succ, List.getElem?_nil, Option.getD_some, Option.getD_none, Option.bind_some, List.getElem?_toArray, true_and, and_true, evBin, evInt, evNil, evPick, evUn, thenQ_normal, thenQ_ret, thenQ_exit, blockQ_normal, blockQ_ret, blockQ_exit, AV.bool.injEq, exists_eq_left', List.map_cons, List.map_nil, Option.map_some, Option.map_none, List.toList_toArray, Bool.true_eq_false, Bool.false_eq_true, Bool.not_true, Bool.not_false, beq_self_eq_true, beq_tr, beq_fa, Int.reduceEq, Int.reduceLT, Int.reduceLE, Int.reduceAdd, evEq, sized, evBuiltin, ne_eq, not_true_eq_false, not_false_eq_true]
      refine hY _ _ ?_
      clear hY Y
      have hwi : IntKind.i64.wrap ((i : Int) + 1) = ((i + 1 : Nat) : Int) := by rw [wrap64_in (by omega) (by omega)]; omega
      have hel := hlens zs[i] (List.getElem_mem hi)
      generalize hzi : zs[i] = q at hel
      obtain ⟨nq, bq⟩ := q
      simp only at hel
      have hidx := idx22 hnl hi
      have hld := fun τ : Store => ld22 hi τ
      simp only [hzi] at hld
      refine awp_seq_k fun X hX => awp_block ?_
      refine awp_seq_k fun Y hY => ?_
      refine regIf tok 10 fun A B hA hB => ?_
      simp only [Run_some, keepFrom, evOps, guardA, isCall, dstOk, evOp, ev, updO, upd, fr, constAV, constCell, pureR, cond_true, cond_false, decide_true, decide_false, Nat.reduceLT, Nat.reduceLeDiff, Nat.reduceEqDiff, Nat.reduceAdd, Nat.reduceMul, Nat.reduceSub, Nat.zero_add, Nat.add_zero, if_true, if_false, reduceIte, reduceCtorEq, List.getD_eq_getElem?_getD, List.getElem?_cons_zero, List.getElem?_cons_succ, List.getElem?_nil, Option.getD_some, Option.getD_none, Option.bind_some, List.getElem?_toArray, true_and, and_true, evBin, evInt, evNil, evPick, evUn, thenQ_normal, thenQ_ret, thenQ_exit, blockQ_normal, blockQ_ret, blockQ_exit, AV.bool.injEq, exists_eq_left', List.map_cons, List.map_nil, Option.map_some, Option.map_none, List.toList_toArray, Bool.true_eq_false, Bool.false_eq_true, Bool.not_true, Bool.not_false, beq_self_eq_true, beq_tr, beq_fa, Int.reduceEq, Int.reduceLT, Int.reduceLE, Int.reduceAdd, evEq, sized, evBuiltin, ne_eq, not_true_eq_false, not_false_eq_true, tab_27, hidx, hld, len27_ds]
      refine ⟨fun h1 => hA _ _ ?_, fun h1 => hB _ _ ?_⟩
      · refine awp_exit ?_
        simp only [Run_some, keepFrom, evOps, guardA, isCall, dstOk, evOp, ev, updO, upd, fr, constAV, constCell, pureR, cond_true, cond_false, decide_true, decide_false, Nat.reduceLT, Nat.reduceLeDiff, Nat.reduceEqDiff, Nat.reduceAdd, Nat.reduceMul, Nat.reduceSub, Nat.zero_add, Nat.add_zero, if_true, if_false, reduceIte, reduceCtorEq, List.getD_eq_getElem?_getD, List.getElem?_cons_zero, List.getElem?_cons_succ, List.getElem?_nil, Option.getD_some, Option.getD_none, Option.bind_some, List.getElem?_toArray, true_and, and_true, evBin, evInt, evNil, evPick, evUn, thenQ_normal, thenQ_ret, thenQ_exit, blockQ_normal, blockQ_ret, blockQ_exit, AV.bool.injEq, exists_eq_left', List.map_cons, List.map_nil, Option.map_some, Option.map_none, List.toList_toArray, Bool.true_eq_false, Bool.false_eq_true, Bool.not_true, Bool.not_false, beq_self_eq_true, beq_tr, beq_fa, Int.reduceEq, Int.reduceLT, Int.reduceLE, Int.reduceAdd, evEq, sized, evBuiltin, ne_eq, not_true_eq_false, not_false_eq_true]
        refine hX _ _ ?_
        refine regEnd tok ?_
        simp only [Run_some, keepFrom, evOps, guardA, isCall, dstOk, evOp, ev, updO, upd, fr, constAV, constCell, pureR, cond_true, cond_false, decide_true, decide_false, Nat.reduceLT, Nat.reduceLeDiff, Nat.reduceEqDiff, Nat.reduceAdd, Nat.reduceMul, Nat.reduceSub, Nat.zero_add, Nat.add_zero, if_true, if_false, reduceIte, reduceCtorEq, List.getD_eq_getElem?_getD, List.getElem?_cons_zero, List.getElem?_cons_succ, List.getElem?_nil, Option.getD_some, Option.getD_none, Option.bind_some, List.getElem?_toArray, true_and, and_true, evBin, evInt, evNil, evPick, evUn, thenQ_normal, thenQ_ret, thenQ_exit, blockQ_normal, blockQ_ret, blockQ_exit, AV.bool.injEq, exists_eq_left', List.map_cons, List.map_nil, Option.map_some, Option.map_none, List.toList_toArray, Bool.true_eq_false, Bool.false_eq_true, Bool.not_true, Bool.not_false, beq_self_eq_true, beq_tr, beq_fa, Int.reduceEq, Int.reduceLT, Int.reduceLE, Int.reduceAdd, evEq, sized, evBuiltin, ne_eq, not_true_eq_false, not_false_eq_true, hwi]
        exact ⟨m - 1, by omega, i + 1, _, d, all, _, _, _, by omega, by omega, by omega, hD, hI, rfl⟩
      clear hA hB A B
      simp only [decide_eq_false_iff_not] at h1
      have hlq : bq.length ≤ 100 := by omega
      refine awp_skip ?_
      simp only [Run_some, keepFrom, evOps, guardA, isCall, dstOk, evOp, ev, updO, upd, fr, constAV, constCell, pureR, cond_true, cond_false, decide_true, decide_false, Nat.reduceLT, Nat.reduceLeDiff, Nat.reduceEqDiff, Nat.reduceAdd, Nat.reduceMul, Nat.reduceSub, Nat.zero_add, Nat.add_zero, if_true, if_false, reduceIte, reduceCtorEq, List.getD_eq_getElem?_getD, List.getElem?_cons_zero, List.getElem?_cons_succ, List.getElem?_nil, Option.getD_some, Option.getD_none, Option.bind_some, List.getElem?_toArray, true_and, and_true, evBin, evInt, evNil, evPick, evUn, thenQ_normal, thenQ_ret, thenQ_exit, blockQ_normal, blockQ_ret, blockQ_exit, AV.bool.injEq, exists_eq_left', List.map_cons, List.map_nil, Option.map_some, Option.map_none, List.toList_toArray, Bool.true_eq_false, Bool.false_eq_true, Bool.not_true, Bool.not_false, beq_self_eq_true, beq_tr, beq_fa, Int.reduceEq, Int.reduceLT, Int.reduceLE, Int.reduceAdd, evEq, sized, evBuiltin, ne_eq, not_true_eq_false, not_false_eq_true]
      refine hY _ _ ?_
      clear hY Y
      obtain ⟨hI2, hcode⟩ := cut_step hI (x := bq) (by omega) hlq
      refine regCalls fun K hK => ?_
      refine opsRun tok ?_
      simp only [Run_some, keepFrom, evOps, guardA, isCall, dstOk, evOp, ev, updO, upd, fr, constAV, constCell, pureR, cond_true, cond_false, decide_true, decide_false, Nat.reduceLT, Nat.reduceLeDiff, Nat.reduceEqDiff, Nat.reduceAdd, Nat.reduceMul, Nat.reduceSub, Nat.zero_add, Nat.add_zero, if_true, if_false, reduceIte, reduceCtorEq, List.getD_eq_getElem?_getD, List.getElem?_cons_zero, List.getElem?_cons_succ, List.getElem?_nil, Option.getD_some, Option.getD_none, Option.bind_some, List.getElem?_toArray, true_and, and_true, evBin, evInt, evNil, evPick, evUn, thenQ_normal, thenQ_ret, thenQ_exit, blockQ_normal, blockQ_ret, blockQ_exit, AV.bool.injEq, exists_eq_left', List.map_cons, List.map_nil, Option.map_some, Option.map_none, List.toList_toArray, Bool.true_eq_false, Bool.false_eq_true, Bool.not_true, Bool.not_false, beq_self_eq_true, beq_tr, beq_fa, Int.reduceEq, Int.reduceLT, Int.reduceLE, Int.reduceAdd, evEq, sized, evBuiltin, ne_eq, not_true_eq_false, not_false_eq_true, tab_27, hidx, hld]
      refine opsWp_callD rfl rfl rfl (lawBytes_ev nq bq false σ (by omega)) ?_
      rintro _ σ ⟨rfl, rfl⟩
      refine opsRun tok ?_
      simp only [Run_some, keepFrom, evOps, guardA, isCall, dstOk, evOp, ev, updO, upd, fr, constAV, constCell, pureR, cond_true, cond_false, decide_true, decide_false, Nat.reduceLT, Nat.reduceLeDiff, Nat.reduceEqDiff, Nat.reduceAdd, Nat.reduceMul, Nat.reduceSub, Nat.zero_add, Nat.add_zero, if_true, if_false, reduceIte, reduceCtorEq, List.getD_eq_getElem?_getD, List.getElem?_cons_zero, List.getElem?_cons_succ, List.getElem?_nil, Option.getD_some, Option.getD_none, Option.bind_some, List.getElem?_toArray, true_and, and_true, evBin, evInt, evNil, evPick, evUn, thenQ_normal, thenQ_ret, thenQ_exit, blockQ_normal, blockQ_ret, blockQ_exit, AV.bool.injEq, exists_eq_left', List.map_cons, List.map_nil, Option.map_some, Option.map_none, List.toList_toArray, Bool.true_eq_false, Bool.false_eq_true, Bool.not_true, Bool.not_false, beq_self_eq_true, beq_tr, beq_fa, Int.reduceEq, Int.reduceLT, Int.reduceLE, Int.reduceAdd, evEq, sized, evBuiltin, ne_eq, not_true_eq_false, not_false_eq_true]
      refine opsWp_callD rfl rfl rfl (append_ev hD (Src.ds σ _ bq false _ rfl)) ?_
      rintro _ _ ⟨rfl, rfl⟩
      have hD2 := hD.put (ver' := ver + (d.append bq).2.1) (hD.ok.append bq)
      rw [hcode]
      generalize dput σ 0 1 (ver + (d.append bq).2.1) (d.append bq).1 = σ2 at hD2
      generalize ver + (d.append bq).2.1 = ver2 at hD2
      have hdead2 := hI2.dead
      generalize (d.append bq).1 = d2 at hD2 hI2 hdead2
      refine opsRun tok ?_
      simp only [Run_some, keepFrom, evOps, guardA, isCall, dstOk, evOp, ev, updO, upd, fr, constAV, constCell, pureR, cond_true, cond_false, decide_true, decide_false, Nat.reduceLT, Nat.reduceLeDiff, Nat.reduceEqDiff, Nat.reduceAdd, Nat.reduceMul, Nat.reduceSub, Nat.zero_add, Nat.add_zero, if_true, if_false, reduceIte, reduceCtorEq, List.getD_eq_getElem?_getD, List.getElem?_cons_zero, List.getElem?_cons_succ, List.getElem?_nil, Option.getD_some, Option.getD_none, Option.bind_some, List.getElem?_toArray, true_and, and_true, evBin, evInt, evNil, evPick, evUn, thenQ_normal, thenQ_ret, thenQ_exit, blockQ_normal, blockQ_ret, blockQ_exit, AV.bool.injEq, exists_eq_left', List.map_cons, List.map_nil, Option.map_some, Option.map_none, List.toList_toArray, Bool.true_eq_false, Bool.false_eq_true, Bool.not_true, Bool.not_false, beq_self_eq_true, beq_tr, beq_fa, Int.reduceEq, Int.reduceLT, Int.reduceLE, Int.reduceAdd, evEq, sized, evBuiltin, ne_eq, not_true_eq_false, not_false_eq_true]
      refine opsWp_nil ?_
      refine hK _ _ (awp_keepN 10 ?_)
      clear hK K
      simp only [Run_some, keepFrom, evOps, guardA, isCall, dstOk, evOp, ev, updO, upd, fr, constAV, constCell, pureR, cond_true, cond_false, decide_true, decide_false, Nat.reduceLT, Nat.reduceLeDiff, Nat.reduceEqDiff, Nat.reduceAdd, Nat.reduceMul, Nat.reduceSub, Nat.zero_add, Nat.add_zero, if_true, if_false, reduceIte, reduceCtorEq, List.getD_eq_getElem?_getD, List.getElem?_cons_zero, List.getElem?_cons_succ, List.getElem?_nil, Option.getD_some, Option.getD_none, Option.bind_some, List.getElem?_toArray, true_and, and_true, evBin, evInt, evNil, evPick, evUn, thenQ_normal, thenQ_ret, thenQ_exit, blockQ_normal, blockQ_ret, blockQ_exit, AV.bool.injEq, exists_eq_left', List.map_cons, List.map_nil, Option.map_some, Option.map_none, List.toList_toArray, Bool.true_eq_false, Bool.false_eq_true, Bool.not_true, Bool.not_false, beq_self_eq_true, beq_tr, beq_fa, Int.reduceEq, Int.reduceLT, Int.reduceLE, Int.reduceAdd, evEq, sized, evBuiltin, ne_eq, not_true_eq_false, not_false_eq_true]
      have hal2 : all.length + bq.length < 9223372036854775808 := by omega
      have hc9 := fun τ : Store => conv9 (nl := nq) (l := bq) (n := bq.length) rfl (t := false) τ
      generalize hcd : (if all.length + bq.length ≤ c then (0 : Int) else 17) = code
      refine awp_seq_k fun Y hY => ?_
      have hgo : Y (fr [.ds nl (bcells zs) zs.length false, .int .i64 a1, x, y, .bool false, .op 0 0 0, .int .i64 c, .str all, .int .i64 i, .int .i64 code]) σ2 := by
        refine hY _ _ ?_
        clear hY Y
        refine regEnd tok ?_
        simp only [Run_some, keepFrom, evOps, guardA, isCall, dstOk, evOp, ev, updO, upd, fr, constAV, constCell, pureR, cond_true, cond_false, decide_true, decide_false, Nat.reduceLT, Nat.reduceLeDiff, Nat.reduceEqDiff, Nat.reduceAdd, Nat.reduceMul, Nat.reduceSub, Nat.zero_add, Nat.add_zero, if_true, if_false, reduceIte, reduceCtorEq, List.getD_eq_getElem?_getD, List.getElem?_cons_zero, List.getElem?_cons_succ, List.getElem?_nil, Option.getD_some, Option.getD_none, Option.bind_some, List.getElem?_toArray, true_and, and_true, evBin, evInt, evNil, evPick, evUn, thenQ_normal, thenQ_ret, thenQ_exit, blockQ_normal, blockQ_ret, blockQ_exit, AV.bool.injEq, exists_eq_left', List.map_cons, List.map_nil, Option.map_some, Option.map_none, List.toList_toArray, Bool.true_eq_false, Bool.false_eq_true, Bool.not_true, Bool.not_false, beq_self_eq_true, beq_tr, beq_fa, Int.reduceEq, Int.reduceLT, Int.reduceLE, Int.reduceAdd, evEq, sized, evBuiltin, ne_eq, not_true_eq_false, not_false_eq_true, tab_27, hidx, hld, hc9, evStr, hal2]
        refine hX _ _ (awp_keepN 10 ?_)
        simp only [Run_some, keepFrom, evOps, guardA, isCall, dstOk, evOp, ev, updO, upd, fr, constAV, constCell, pureR, cond_true, cond_false, decide_true, decide_false, Nat.reduceLT, Nat.reduceLeDiff, Nat.reduceEqDiff, Nat.reduceAdd, Nat.reduceMul, Nat.reduceSub, Nat.zero_add, Nat.add_zero, if_true, if_false, reduceIte, reduceCtorEq, List.getD_eq_getElem?_getD, List.getElem?_cons_zero, List.getElem?_cons_succ, List.getElem?_nil, Option.getD_some, Option.getD_none, Option.bind_some, List.getElem?_toArray, true_and, and_true, evBin, evInt, evNil, evPick, evUn, thenQ_normal, thenQ_ret, thenQ_exit, blockQ_normal, blockQ_ret, blockQ_exit, AV.bool.injEq, exists_eq_left', List.map_cons, List.map_nil, Option.map_some, Option.map_none, List.toList_toArray, Bool.true_eq_false, Bool.false_eq_true, Bool.not_true, Bool.not_false, beq_self_eq_true, beq_tr, beq_fa, Int.reduceEq, Int.reduceLT, Int.reduceLE, Int.reduceAdd, evEq, sized, evBuiltin, ne_eq, not_true_eq_false, not_false_eq_true]
        refine regEnd tok ?_
        simp only [Run_some, keepFrom, evOps, guardA, isCall, dstOk, evOp, ev, updO, upd, fr, constAV, constCell, pureR, cond_true, cond_false, decide_true, decide_false, Nat.reduceLT, Nat.reduceLeDiff, Nat.reduceEqDiff, Nat.reduceAdd, Nat.reduceMul, Nat.reduceSub, Nat.zero_add, Nat.add_zero, if_true, if_false, reduceIte, reduceCtorEq, List.getD_eq_getElem?_getD, List.getElem?_cons_zero, List.getElem?_cons_succ, List.getElem?_nil, Option.getD_some, Option.getD_none, Option.bind_some, List.getElem?_toArray, true_and, and_true, evBin, evInt, evNil, evPick, evUn, thenQ_normal, thenQ_ret, thenQ_exit, blockQ_normal, blockQ_ret, blockQ_exit, AV.bool.injEq, exists_eq_left', List.map_cons, List.map_nil, Option.map_some, Option.map_none, List.toList_toArray, Bool.true_eq_false, Bool.false_eq_true, Bool.not_true, Bool.not_false, beq_self_eq_true, beq_tr, beq_fa, Int.reduceEq, Int.reduceLT, Int.reduceLE, Int.reduceAdd, evEq, sized, evBuiltin, ne_eq, not_true_eq_false, not_false_eq_true, hwi]
        exact ⟨m - 1, by omega, i + 1, _, d2, all ++ bq, _, _, _, by omega, by simp; omega, by omega, hD2, hI2, rfl⟩
      have hw : IntKind.i64.wrap ((all.length : Int) + bq.length) = ((all.length + bq.length : Nat) : Int) := by rw [wrap64_in (by omega) (by omega)]; omega
      refine awp_seq_k fun K hK => ?_
      have h12 : ∀ (F' : Fr) (b : Bool), keepFrom F' 0 10 = [.ds nl (bcells zs) zs.length false, .int .i64 a1, x, y, .bool false, .op 0 0 0, .int .i64 c, .str all, .int .i64 i, .int .i64 code] → F' 51 = .bool b → K F' σ2 := by
        intro F' b h1 h2
        refine hK _ _ (condAB 10 fun A B hA hB => ⟨b, h2, fun _ => ?_, fun _ => ?_⟩) <;> rw [h1]
        · refine hA _ _ ?_
          by_cases hf : all.length + bq.length ≤ c
          · rw [if_pos hf] at hcd
            subst hcd
            have hf' : ((all.length + bq.length : Nat) : Int) ≤ c := by omega
            refine regIf tok 10 fun A B hA hB => ?_
            simp only [Run_some, keepFrom, evOps, guardA, isCall, dstOk, evOp, ev, updO, upd, fr, constAV, constCell, pureR, cond_true, cond_false, decide_true, decide_false, Nat.reduceLT, Nat.reduceLeDiff, Nat.reduceEqDiff, Nat.reduceAdd, Nat.reduceMul, Nat.reduceSub, Nat.zero_add, Nat.add_zero, if_true, if_false, reduceIte, reduceCtorEq, List.getD_eq_getElem?_getD, List.getElem?_cons_zero, List.getElem?_cons_succ, List.getElem?_nil, Option.getD_some, Option.getD_none, Option.bind_some, List.getElem?_toArray, true_and, and_true, evBin, evInt, evNil, evPick, evUn, thenQ_normal, thenQ_ret, thenQ_exit, blockQ_normal, blockQ_ret, blockQ_exit, AV.bool.injEq, exists_eq_left', List.map_cons, List.map_nil, Option.map_some, Option.map_none, List.toList_toArray, Bool.true_eq_false, Bool.false_eq_true, Bool.not_true, Bool.not_false, beq_self_eq_true, beq_tr, beq_fa, Int.reduceEq, Int.reduceLT, Int.reduceLE, Int.reduceAdd, evEq, sized, evBuiltin, ne_eq, not_true_eq_false, not_false_eq_true, tab_27, tab_4, hidx, hld, len27_ds, len9, hw, hf']
            exact ⟨fun e => e.elim, fun _ => hB _ _ (awp_skip hgo)⟩
          · rw [if_neg hf] at hcd
            subst hcd
            have hf' : ¬ ((all.length + bq.length : Nat) : Int) ≤ c := by omega
            refine regIf tok 10 fun A B hA hB => ?_
            simp only [Run_some, keepFrom, evOps, guardA, isCall, dstOk, evOp, ev, updO, upd, fr, constAV, constCell, pureR, cond_true, cond_false, decide_true, decide_false, Nat.reduceLT, Nat.reduceLeDiff, Nat.reduceEqDiff, Nat.reduceAdd, Nat.reduceMul, Nat.reduceSub, Nat.zero_add, Nat.add_zero, if_true, if_false, reduceIte, reduceCtorEq, List.getD_eq_getElem?_getD, List.getElem?_cons_zero, List.getElem?_cons_succ, List.getElem?_nil, Option.getD_some, Option.getD_none, Option.bind_some, List.getElem?_toArray, true_and, and_true, evBin, evInt, evNil, evPick, evUn, thenQ_normal, thenQ_ret, thenQ_exit, blockQ_normal, blockQ_ret, blockQ_exit, AV.bool.injEq, exists_eq_left', List.map_cons, List.map_nil, Option.map_some, Option.map_none, List.toList_toArray, Bool.true_eq_false, Bool.false_eq_true, Bool.not_true, Bool.not_false, beq_self_eq_true, beq_tr, beq_fa, Int.reduceEq, Int.reduceLT, Int.reduceLE, Int.reduceAdd, evEq, sized, evBuiltin, ne_eq, not_true_eq_false, not_false_eq_true, tab_27, tab_4, hidx, hld, len27_ds, len9, hw, hf']
            exact ⟨fun e => e.elim, fun _ => hB _ _ (awp_skip hgo)⟩
        · exact hB _ _ (awp_skip hgo)
      refine awp_region ?_
      by_cases h0 : (0 : Int) < bq.length
      · refine opsRun tok ?_
        simp only [Run_some, keepFrom, evOps, guardA, isCall, dstOk, evOp, ev, updO, upd, fr, constAV, constCell, pureR, cond_true, cond_false, decide_true, decide_false, Nat.reduceLT, Nat.reduceLeDiff, Nat.reduceEqDiff, Nat.reduceAdd, Nat.reduceMul, Nat.reduceSub, Nat.zero_add, Nat.add_zero, if_true, if_false, reduceIte, reduceCtorEq, List.getD_eq_getElem?_getD, List.getElem?_cons_zero, List.getElem?_cons_succ, List.getElem?_nil, Option.getD_some, Option.getD_none, Option.bind_some, List.getElem?_toArray, true_and, and_true, evBin, evInt, evNil, evPick, evUn, thenQ_normal, thenQ_ret, thenQ_exit, blockQ_normal, blockQ_ret, blockQ_exit, AV.bool.injEq, exists_eq_left', List.map_cons, List.map_nil, Option.map_some, Option.map_none, List.toList_toArray, Bool.true_eq_false, Bool.false_eq_true, Bool.not_true, Bool.not_false, beq_self_eq_true, beq_tr, beq_fa, Int.reduceEq, Int.reduceLT, Int.reduceLE, Int.reduceAdd, evEq, sized, evBuiltin, ne_eq, not_true_eq_false, not_false_eq_true, tab_27, hidx, hld, len27_ds, h0]
        exact opsWp_nil (h12 _ _ rfl rfl)
      · refine opsRun tok ?_
        simp only [Run_some, keepFrom, evOps, guardA, isCall, dstOk, evOp, ev, updO, upd, fr, constAV, constCell, pureR, cond_true, cond_false, decide_true, decide_false, Nat.reduceLT, Nat.reduceLeDiff, Nat.reduceEqDiff, Nat.reduceAdd, Nat.reduceMul, Nat.reduceSub, Nat.zero_add, Nat.add_zero, if_true, if_false, reduceIte, reduceCtorEq, List.getD_eq_getElem?_getD, List.getElem?_cons_zero, List.getElem?_cons_succ, List.getElem?_nil, Option.getD_some, Option.getD_none, Option.bind_some, List.getElem?_toArray, true_and, and_true, evBin, evInt, evNil, evPick, evUn, thenQ_normal, thenQ_ret, thenQ_exit, blockQ_normal, blockQ_ret, blockQ_exit, AV.bool.injEq, exists_eq_left', List.map_cons, List.map_nil, Option.map_some, Option.map_none, List.toList_toArray, Bool.true_eq_false, Bool.false_eq_true, Bool.not_true, Bool.not_false, beq_self_eq_true, beq_tr, beq_fa, Int.reduceEq, Int.reduceLT, Int.reduceLE, Int.reduceAdd, evEq, sized, evBuiltin, ne_eq, not_true_eq_false, not_false_eq_true, tab_27, hidx, hld, len27_ds, h0]
        refine opsWp_callD rfl rfl rfl (dead_ev hD2) ?_
        rintro _ σ2 ⟨rfl, rfl⟩
        refine opsRun tok ?_
        simp only [Run_some, keepFrom, evOps, guardA, isCall, dstOk, evOp, ev, updO, upd, fr, constAV, constCell, pureR, cond_true, cond_false, decide_true, decide_false, Nat.reduceLT, Nat.reduceLeDiff, Nat.reduceEqDiff, Nat.reduceAdd, Nat.reduceMul, Nat.reduceSub, Nat.zero_add, Nat.add_zero, if_true, if_false, reduceIte, reduceCtorEq, List.getD_eq_getElem?_getD, List.getElem?_cons_zero, List.getElem?_cons_succ, List.getElem?_nil, Option.getD_some, Option.getD_none, Option.bind_some, List.getElem?_toArray, true_and, and_true, evBin, evInt, evNil, evPick, evUn, thenQ_normal, thenQ_ret, thenQ_exit, blockQ_normal, blockQ_ret, blockQ_exit, AV.bool.injEq, exists_eq_left', List.map_cons, List.map_nil, Option.map_some, Option.map_none, List.toList_toArray, Bool.true_eq_false, Bool.false_eq_true, Bool.not_true, Bool.not_false, beq_self_eq_true, beq_tr, beq_fa, Int.reduceEq, Int.reduceLT, Int.reduceLE, Int.reduceAdd, evEq, sized, evBuiltin, ne_eq, not_true_eq_false, not_false_eq_true]
        exact opsWp_nil (h12 _ _ rfl rfl)
    · refine awp_exit ?_
      simp only [Run_some, keepFrom, evOps, guardA, isCall, dstOk, evOp, ev, updO, upd, fr, constAV, constCell, pureR, cond_true, cond_false, decide_true, decide_false, Nat.reduceLT, Nat.reduceLeDiff, Nat.reduceEqDiff, Nat.reduceAdd, Nat.reduceMul, Nat.reduceSub, Nat.zero_add, Nat.add_zero, if_true, if_false, reduceIte, reduceCtorEq, List.getD_eq_getElem?_getD, List.getElem?_cons_zero, List.getElem?_cons_succ, List.getElem?_nil, Option.getD_some, Option.getD_none, Option.bind_some, List.getElem?_toArray, true_and, and_true, evBin, evInt, evNil, evPick, evUn, thenQ_normal, thenQ_ret, thenQ_exit, blockQ_normal, blockQ_ret, blockQ_exit, AV.bool.injEq, exists_eq_left', List.map_cons, List.map_nil, Option.map_some, Option.map_none, List.toList_toArray, Bool.true_eq_false, Bool.false_eq_true, Bool.not_true, Bool.not_false, beq_self_eq_true, beq_tr, beq_fa, Int.reduceEq, Int.reduceLT, Int.reduceLE, Int.reduceAdd, evEq, sized, evBuiltin, ne_eq, not_true_eq_false, not_false_eq_true]
      exact hfin _ _ _ _ _ _ _ _ hD hI (by omega)
  · refine awp_seq_k fun Y hY => ?_
    refine regIf tok 10 fun A B hA hB => ?_
    simp only [Run_some, keepFrom, evOps, guardA, isCall, dstOk, evOp, ev, updO, upd, fr, constAV, constCell, pureR, cond_true, cond_false, decide_true, decide_false, Nat.reduceLT, Nat.reduceLeDiff, Nat.reduceEqDiff, Nat.reduceAdd, Nat.reduceMul, Nat.reduceSub, Nat.zero_add, Nat.add_zero, if_true, if_false, reduceIte, reduceCtorEq, List.getD_eq_getElem?_getD, List.getElem?_cons_zero, List.getElem?_cons_succ, List.getElem?_nil, Option.getD_some, Option.getD_none, Option.bind_some, List.getElem?_toArray, true_and, and_true, evBin, evInt, evNil, evPick, evUn, thenQ_normal, thenQ_ret, thenQ_exit, blockQ_normal, blockQ_ret, blockQ_exit, AV.bool.injEq, exists_eq_left', List.map_cons, List.map_nil, Option.map_some, Option.map_none, List.toList_toArray, Bool.true_eq_false, Bool.false_eq_true, Bool.not_true, Bool.not_false, beq_self_eq_true, beq_tr, beq_fa, Int.reduceEq, Int.reduceLT, Int.reduceLE, Int.reduceAdd, evEq, sized, evBuiltin, ne_eq, not_true_eq_false, not_false_eq_true, len22, hi, Int.ofNat_lt]
    refine ⟨fun e => e.elim, fun _ => hB _ _ ?_⟩
    refine awp_exit ?_
    simp only [Run_some, keepFrom, evOps, guardA, isCall, dstOk, evOp, ev, updO, upd, fr, constAV, constCell, pureR, cond_true, cond_false, decide_true, decide_false, Nat.reduceLT, Nat.reduceLeDiff, Nat.reduceEqDiff, Nat.reduceAdd, Nat.reduceMul, Nat.reduceSub, Nat.zero_add, Nat.add_zero, if_true, if_false, reduceIte, reduceCtorEq, List.getD_eq_getElem?_getD, List.getElem?_cons_zero, List.getElem?_cons_succ, List.getElem?_nil, Option.getD_some, Option.getD_none, Option.bind_some, List.getElem?_toArray, true_and, and_true, evBin, evInt, evNil, evPick, evUn, thenQ_normal, thenQ_ret, thenQ_exit, blockQ_normal, blockQ_ret, blockQ_exit, AV.bool.injEq, exists_eq_left', List.map_cons, List.map_nil, Option.map_some, Option.map_none, List.toList_toArray, Bool.true_eq_false, Bool.false_eq_true, Bool.not_true, Bool.not_false, beq_self_eq_true, beq_tr, beq_fa, Int.reduceEq, Int.reduceLT, Int.reduceLE, Int.reduceAdd, evEq, sized, evBuiltin, ne_eq, not_true_eq_false, not_false_eq_true]
    exact hfin _ _ _ _ _ _ _ _ hD hI (by omega)

end Go.Proofs.Ytplddidoobjcnaa
