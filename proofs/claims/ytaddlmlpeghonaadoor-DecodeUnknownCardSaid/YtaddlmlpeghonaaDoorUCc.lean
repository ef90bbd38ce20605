import Derived.Test.YtaddlmlpeghonaaDoorUFA
import Derived.Test.YtaddlmlpeghonaaDoorUCb
set_option maxRecDepth 8000
set_option maxHeartbeats 1000000
set_option linter.unusedSimpArgs false
set_option linter.unusedVariables false
namespace Go.Proofs.YtaddlmlpeghonaaDoor
open Nat renaming reduceLT → rL, reduceLeDiff → rD, reduceEqDiff → rE, reduceAdd → rA, reduceMul → rM, reduceSub → rS
open Go.RowKit AM
structure Ent where
 tag : Int
 id : Nat
 ver : Nat
 trees : List GTree
def Ent.cells (e : Ent) : List AV := [.int .i64 e.tag, .os true 5 e.id e.ver 0 e.trees.length false]
def Ent.val (e : Ent) : GEntry := ⟨e.tag, e.trees⟩
structure Rep (σ : Store) (tid eid ever : Nat) (L : List Ent) : Prop where
 t : Store.at σ tid 0 = some [.int .i64 3, .int .i64 0, .str [], .os true 2 eid ever 0 L.length false, .ds true [] 0 true]
 e : Store.at σ eid ever = some (L.flatMap Ent.cells)
 tr : ∀ x ∈ L, Store.at σ x.id x.ver = some (x.trees.flatMap encGTree)
 nd : (tid :: eid :: L.map Ent.id).Nodup
def decode_put (es : List GEntry) (f : GField) (x : GTree) : Option (List GEntry × Bool) :=
 (slices_BinarySearchFunc_Entry_decode_put_1 es f.fTag).bind fun p =>
 (if p.2 = true then some es else (grd (0 ≤ p.1 ∧ p.1 ≤ (es.length : Int))).bind fun _ => (room (es.length + 1) 32).bind fun _ => some (es.take p.1.toNat ++ ⟨f.fTag, []⟩ :: es.drop p.1.toNat)).bind fun es1 =>
 (idxL es1 p.1).bind fun e =>
 (room ((if f.fLabel = 3 then e.fTrees.length else 0) + 1) 80).bind fun _ =>
 some (es1.set p.1.toNat ⟨e.fTag, (if f.fLabel = 3 then e.fTrees else []) ++ [x]⟩, decide ((((if f.fLabel = 3 then e.fTrees else []) ++ [x]).length : Int) ≤ 64))
theorem at_app {σ : Store} {id ver : Nat} {cs : List AV} (h : Store.at σ id ver = some cs) (l : Store) : Store.at (σ ++ l) id ver = some cs := by
 have := Store.at_lt h
 unfold Store.at at h ⊢; rw [List.getElem?_append_left this]; exact h
theorem at_set_ne {σ : Store} {id id' ver : Nat} {cs : List AV} (h : Store.at σ id ver = some cs) (hne : id ≠ id') (o : AObj) : Store.at (σ.set id' o) id ver = some cs := by
 unfold Store.at at h ⊢; rw [List.getElem?_set_ne (fun e => hne e.symm)]; exact h
theorem at_end (σ : Store) (cs : List AV) (l : Store) : Store.at (σ ++ .cells 0 cs :: l) σ.length 0 = some cs := by
 unfold Store.at; rw [List.getElem?_append_right (Nat.le_refl _), Nat.sub_self]; rfl
theorem at_end1 (σ : Store) (o : AObj) (cs : List AV) (l : Store) : Store.at (σ ++ o :: .cells 0 cs :: l) (σ.length + 1) 0 = some cs := by
 unfold Store.at; rw [List.getElem?_append_right (by omega)]; simp
theorem Rep.app {σ : Store} {tid eid ever : Nat} {L : List Ent} (h : Rep σ tid eid ever L) (l : Store) : Rep (σ ++ l) tid eid ever L :=
 ⟨at_app h.t l, at_app h.e l, fun x hx => at_app (h.tr x hx) l, h.nd⟩
theorem Rep.toldC {σ : Store} {tid eid ever : Nat} {L : List Ent} (h : Rep σ tid eid ever L) (keep : List Nat) (ls : Bool) (f : Nat) (hk : ∀ y ∈ L, idxOf keep y.id 0 = none) : (L.flatMap Ent.cells).map (tell σ keep ls (f + 2)) = (L.map Ent.val).flatMap encGEntry := by
 have key : ∀ l : List Ent, (∀ x ∈ l, x ∈ L) → (l.flatMap Ent.cells).map (tell σ keep ls (f + 2)) = (l.map Ent.val).flatMap encGEntry := by
  intro l
  induction l with
  | nil => intro _; rfl
  | cons a l ih =>
   intro hl
   have h1 := h.tr a (hl a (List.mem_cons_self ..))
   have h2 := hk a (hl a (List.mem_cons_self ..))
   simp only [List.flatMap_cons, List.map_append, List.map_cons, ih fun x hx => hl x (List.mem_cons_of_mem _ hx)]
   congr 1
   simp only [Ent.cells, Ent.val, List.map_cons, List.map_nil, tell_int, tell_os, h2, h1, zy, cellsGEntry, GEntry.fTag, GEntry.fTrees]
   have hl : (a.trees.flatMap encGTree).length = a.trees.length * 5 := zo E59.len a.trees
   rw [if_pos (by rw [hl]; omega), List.drop_zero, ← hl, List.take_length, zv]
 exact key L (fun _ h => h)
theorem Rep.told {σ : Store} {tid eid ever : Nat} {L : List Ent} (h : Rep σ tid eid ever L) (nl : Bool) : tell σ [] true 12 (.os nl 2 eid ever 0 L.length false) = .ds true ((L.map Ent.val).flatMap encGEntry) (L.map Ent.val).length false := by
 have hl : (L.flatMap Ent.cells).length = L.length * 2 := by
  clear h
  induction L with
  | nil => rfl
  | cons a l ih => rw [List.flatMap_cons, List.length_append, ih]; simp [Ent.cells]; omega
 simp only [tell_os, idxOf_nil, h.e]
 rw [if_pos (by rw [hl]; omega), List.drop_zero, ← hl, List.take_length, h.toldC [] true 9 (fun _ _ => rfl), List.length_map]
theorem Rep.set_ne {σ : Store} {tid eid ever : Nat} {L : List Ent} (h : Rep σ tid eid ever L) {j : Nat} (hj : j ∉ tid :: eid :: L.map Ent.id) (o : AObj) : Rep (σ.set j o) tid eid ever L := by
 refine ⟨at_set_ne h.t (fun e => hj (by rw [← e]; simp)) o, at_set_ne h.e (fun e => hj (by rw [← e]; simp)) o, fun x hx => at_set_ne (h.tr x hx) (fun e => hj ?_) o, h.nd⟩
 rw [← e]
 exact List.mem_cons_of_mem _ (List.mem_cons_of_mem _ (List.mem_map.2 ⟨x, hx, rfl⟩))
structure Mid (σ τ : Store) (tid eid ever : Nat) (ids : List Nat) (pre post : List Ent) (tag : Int) (av : AV) (trees : List GTree) : Prop where
 t : Store.at τ tid 0 = some [.int .i64 3, .int .i64 0, .str [], .os true 2 eid ever 0 (pre.length + (1 + post.length)) false, .ds true [] 0 true]
 e : Store.at τ eid ever = some (pre.flatMap Ent.cells ++ ([.int .i64 tag, av] ++ post.flatMap Ent.cells))
 tr : ∀ y ∈ pre ++ post, Store.at τ y.id y.ver = some (y.trees.flatMap encGTree)
 nd : (tid :: eid :: (pre ++ post).map Ent.id).Nodup
 c : (av = .ds true [] 0 true ∧ trees = []) ∨ ∃ id ver, av = .os true 5 id ver 0 trees.length false ∧ Store.at τ id ver = some (trees.flatMap encGTree) ∧ id ∉ tid :: eid :: (pre ++ post).map Ent.id ∧ id ∈ ids
 sub : ∀ y ∈ pre ++ post, y.id ∈ ids
 len : σ.length + 2 ≤ τ.length
 fr : ∀ j, j < σ.length → j ∉ tid :: eid :: ids → τ[j]? = σ[j]?
 lt : ∀ j ∈ tid :: eid :: ids, j < σ.length
theorem agr_app {x : List Nat} : ∀ {s : Store} {i : Nat} (l : Store), agr x i s s (s ++ l) = True := by
 intro s
 induction s with
 | nil => intro i l; rfl
 | cons a s ih => intro i l; simp only [List.cons_append, agr, ih]; simp
theorem cells_len (l : List Ent) : (l.flatMap Ent.cells).length = l.length * 2 := by
 induction l with
 | nil => rfl
 | cons a l ih => rw [List.flatMap_cons, List.length_append, ih]; simp [Ent.cells]; omega
theorem cells_one (l : List Ent) : (l.flatMap Ent.cells).all AV.one = true := by
 induction l with
 | nil => rfl
 | cons a l ih => rw [List.flatMap_cons, List.all_append, ih]; rfl
theorem split_at {α : Type} {l : List α} {k : Nat} (h : k ≤ l.length) : ∃ a b, l = a ++ b ∧ a.length = k := ⟨l.take k, l.drop k, (List.take_append_drop k l).symm, by simp [h]⟩
theorem split_el {α : Type} {l : List α} {k : Nat} (h : k < l.length) : ∃ a x b, l = a ++ x :: b ∧ a.length = k := by
 refine ⟨l.take k, l[k], l.drop (k + 1), ?_, by simp; omega⟩
 rw [← List.drop_eq_getElem_cons h, List.take_append_drop]
theorem set_mid {α : Type} (a : List α) (x y : α) (b : List α) : (a ++ x :: b).set a.length y = a ++ y :: b := by
 rw [List.set_append_right _ _ (Nat.le_refl _), Nat.sub_self]; rfl
theorem gc_mid (a b : List AV) (x y : AV) : gc (a ++ ([x, y] ++ b)) (a.length + 1) = y := by
 rw [gc_append_right _ _ _ (by omega), Nat.add_sub_cancel_left]; rfl
theorem set_mid1 (a b : List AV) (x y z : AV) : (a ++ ([x, y] ++ b)).set (a.length + 1) z = a ++ ([x, z] ++ b) := by
 rw [List.set_append_right _ _ (by omega), Nat.add_sub_cancel_left]; rfl
theorem put_at {σ : Store} {tid eid ever : Nat} {L : List Ent} (hR : Rep σ tid eid ever L) (f : GField) (x : GTree) {es' : List GEntry} {b : Bool} (h : decode_put (L.map Ent.val) f x = some (es', b)) :
 ACalls Tryd.prog 58 [.op tid 0 0, .agg (encGField f), .agg (cellsGTree x)] σ (fun r σ' => ∃ ever' L', r = .bool b ∧ Rep σ' tid eid ever' L' ∧ L'.map Ent.val = es' ∧
  (∀ y ∈ L', y.id ∈ L.map Ent.id ∨ σ.length ≤ y.id) ∧ σ.length ≤ σ'.length ∧ ∀ j, j < σ.length → j ∉ tid :: eid :: L.map Ent.id → σ'[j]? = σ[j]?) := by
 refine acalls_body (rs := [.tmp 6]) tok Tryd.func58 rfl Tryd.ntmps58 rfl Tryd.call58 (by simp) ?_
 refine zm [(0, .op tid 0 0), (1, .agg (encGField f)), (2, .agg (cellsGTree x))] ⟨rfl, rfl, rfl, trivial⟩ ?_
 refine rg tok [0, 4, 5, 6] fun K hK => ?_
 simp only [go_sem, rL, rE, rA, reduceCtorEq, encGField, cellsGTree]
 refine hK _ _ ?_
 clear hK K
 simp only [List.append_assoc, List.cons_append, List.nil_append, List.length_append, List.length_cons, List.length_nil, Nat.zero_add]
 obtain ⟨σ1, hσ1⟩ : ∃ s, s = σ ++ [.cells 0 [.str f.fName, .int .i64 f.fTag, .int .i64 f.fLabel, .int .i64 f.fType.fKind, .str f.fType.fName],
  .cells 0 [.int .i64 x.fKind, .int .i64 x.fN, .str x.fS, .ds true (List.flatMap encGEntry x.fEntries) x.fEntries.length false, .ds true (List.flatMap encGRaw x.fRest) x.fRest.length false]] := ⟨_, rfl⟩
 rw [← hσ1]
 have hR1 : Rep σ1 tid eid ever L := hσ1 ▸ hR.app _
 have h4 : Store.at σ1 σ.length 0 = some [.str f.fName, .int .i64 f.fTag, .int .i64 f.fLabel, .int .i64 f.fType.fKind, .str f.fType.fName] := hσ1 ▸ at_end _ _ _
 have h5 : Store.at σ1 (σ.length + 1) 0 = some [.int .i64 x.fKind, .int .i64 x.fN, .str x.fS, .ds true (List.flatMap encGEntry x.fEntries) x.fEntries.length false, .ds true (List.flatMap encGRaw x.fRest) x.fRest.length false] := hσ1 ▸ at_end1 _ _ _ _
 have hn1 : σ1.length = σ.length + 2 := by rw [hσ1]; simp
 have hfr : ∀ j, j < σ.length → σ1[j]? = σ[j]? := fun j hj => by rw [hσ1, List.getElem?_append_left hj]
 have hlt : ∀ j ∈ tid :: eid :: L.map Ent.id, j < σ.length := by
  intro j hj
  rcases List.mem_cons.1 hj with rfl | hj
  · exact Store.at_lt hR.t
  · rcases List.mem_cons.1 hj with rfl | hj
    · exact Store.at_lt hR.e
    · obtain ⟨y, hy, rfl⟩ := List.mem_map.1 hj
      exact Store.at_lt (hR.tr y hy)
 clear hσ1
 unfold decode_put at h
 obtain ⟨p, hp, h⟩ := bind_some h
 have ht1 := hR1.t
 refine rd [0, 4, 5, 6, 7, 8] fun K hK => ?_
 refine DW.start (T := tab) [.any, .any, .any, .at [], .any, .at [], .eff, .any, .any, .any, .any, .any] [] ?_
 refine DW.runN tok 6 ?_
 simp only [go_sem, rL, rE, rA, reduceCtorEq, ht1, h4]
 refine DW.call rfl rfl rfl ((slices_BinarySearchFunc_Entry_decode_put_1.ok _ _ p hp).lend rfl true 12 (by simp only [List.map_cons, List.map_nil, go_sem, rE, reduceCtorEq, hR1.told true, tell_int]; rfl)) ?_
 refine DW.runN tok 5 ?_
 simp only [go_sem, rL, rE, rA, reduceCtorEq]
 refine DW.fin tok (by decide +kernel) rfl ?_
 simp only [zd, upd, rE, reduceIte, zk, fs_nil]
 refine hK _ _ ?_
 clear hK K
 obtain ⟨es1, hes1, h⟩ := bind_some h
 obtain ⟨e, he, h⟩ := bind_some h
 obtain ⟨u, hu, h⟩ := bind_some h
 have hg := room_some hu
 have hidL : ∀ l : List Ent, (l.map Ent.val).length = l.length := fun l => List.length_map _
 refine awp_join (fun F τ => F = [(0, AV.op tid 0 0), (4, .op σ.length 0 0), (5, .op (σ.length + 1) 0 0), (6, .bool false), (7, .int .i64 p.1)] ∧ ∃ ever' pre post av, p.1 = (pre.length : Int) ∧ es1 = pre.map Ent.val ++ e :: post.map Ent.val ∧ Mid σ τ tid eid ever' (L.map Ent.id) pre post e.fTag av e.fTrees ∧
  Store.at τ σ.length 0 = some [.str f.fName, .int .i64 f.fTag, .int .i64 f.fLabel, .int .i64 f.fType.fKind, .str f.fType.fName] ∧
  Store.at τ (σ.length + 1) 0 = some [.int .i64 x.fKind, .int .i64 x.fN, .str x.fS, .ds true (List.flatMap encGEntry x.fEntries) x.fEntries.length false, .ds true (List.flatMap encGRaw x.fRest) x.fRest.length false]) ?_ ?_
 · refine rg tok [0, 4, 5, 6, 7, 21] fun K hK => ?_
   simp only [go_sem, rL, rE, reduceCtorEq]
   refine hK _ _ ?_
   clear hK K
   refine zw (b := !p.2) rfl (fun hc => ?_) (fun hc => ?_)
   · have hc' : p.2 = false := by simpa using hc
     rw [if_F hc'] at hes1
     obtain ⟨_, h1, hes1⟩ := bind_some hes1
     obtain ⟨_, h2, hes1⟩ := bind_some hes1
     have h1 := grd_some h1
     have h2 := room_some h2
     obtain rfl := Option.some.inj hes1
     obtain ⟨k, hk⟩ : ∃ k : Nat, p.1 = k := ⟨p.1.toNat, by omega⟩
     rw [hk] at he h1 ⊢
     simp only [Int.toNat_natCast, hidL] at he h1 h2
     have hkl : k ≤ L.length := by omega
     obtain ⟨pre, post, rfl, rfl⟩ := split_at hkl
     have hl2 : (pre ++ post).length = pre.length + post.length := List.length_append
     have e1 : List.take pre.length ((pre ++ post).map Ent.val) = pre.map Ent.val := by rw [List.map_append, ← List.length_map (f := Ent.val), List.take_left]
     have e2 : List.drop pre.length ((pre ++ post).map Ent.val) = post.map Ent.val := by rw [List.map_append, ← List.length_map (f := Ent.val), List.drop_left]
     rw [e1, e2] at he
     have hee : e = ⟨f.fTag, []⟩ := by
      obtain ⟨_, _, _, g3⟩ := idxL_some he
      rw [← g3]; simp
     subst hee
     rw [Int.toNat_natCast, e1, e2]
     have hc1 : ((pre ++ post).flatMap Ent.cells).take (pre.length * 2) = pre.flatMap Ent.cells := by rw [List.flatMap_append, ← cells_len, List.take_left]
     have hc2 : ((pre ++ post).flatMap Ent.cells).drop (pre.length * 2) = post.flatMap Ent.cells := by rw [List.flatMap_append, ← cells_len, List.drop_left]
     have htl : (tid < σ1.length) = True := eq_true (by have := hlt tid (by simp); omega)
     have htl2 : (tid < σ.length) = True := eq_true (hlt tid (by simp))
     have hel := hlt eid (by simp)
     have hte : tid ≠ eid := by have := hR1.nd; simp at this; exact this.1.1
     have hins := Insert_at (σ := σ1 ++ [AObj.cells 0 [AV.int .i64 f.fTag, AV.ds true [] 0 true]]) (nl := true) (i := pre.length) (at_app hR1.e _) (cells_len _) (cells_one _) (by omega) (by have := of_eq_true h2; omega) (at_end σ1 _ []) (new := [AV.int .i64 f.fTag, AV.ds true [] 0 true]) rfl rfl (by omega)
     rw [hc1, hc2] at hins
     obtain ⟨σ2, hσ2⟩ : ∃ s, s = List.set (σ1 ++ [AObj.cells 0 [AV.int .i64 f.fTag, AV.ds true [] 0 true]]) eid (AObj.cells (ever + 1) (pre.flatMap Ent.cells ++ ([AV.int .i64 f.fTag, AV.ds true [] 0 true] ++ post.flatMap Ent.cells))) ++ [AObj.dead] := ⟨_, rfl⟩
     rw [← hσ2] at hins
     have ht2 : Store.at σ2 tid 0 = some [.int .i64 3, .int .i64 0, .str [], .os true 2 eid ever 0 (pre ++ post).length false, .ds true [] 0 true] := by
      rw [hσ2]; exact at_app (at_set_ne (at_app hR1.t _) hte _) _
     refine rdE [0, 4, 5, 6, 7] fun K hK => ?_
     refine DW.start (T := tab) [.any, .any, .any, .any, .own 1 [], .any, .any, .at [], .any, .eff, .eff, .any, .any, .eff] [(1, [])] ?_
     refine DW.runN tok 6 ?_
     simp only [go_sem, rL, rE, rA, reduceCtorEq, ht1, htl]
     refine DW.runN tok 4 ?_
     simp only [go_sem, rL, rD, rE, rA, rM, reduceCtorEq, h4, evBuildSlice, zeroRun, List.range_succ, List.range_zero, true_and, Nat.reduceMod, agr_app]
     refine DW.callS rfl rfl rfl hins (fun m x hm hle => by simp at hm hle; omega) ?_
     refine DW.runN tok 3 ?_
     simp only [go_sem, rL, rD, rE, rA, reduceCtorEq, ht2]
     refine DW.fin tok (by decide +kernel) rfl ?_
     simp only [zd, upd, rE, reduceIte, zk, fs_nil]
     refine hK _ _ ?_
     clear hK K
     have hnd := hR1.nd
     have keep : ∀ {j v : Nat} {cs : List AV}, Store.at σ1 j v = some cs → j ≠ eid → j ≠ tid → Store.at (σ2.set tid (.cells 0 [.int .i64 3, .int .i64 0, .str [], .os true 2 eid (ever + 1) 0 ((pre ++ post).length + 1) false, .ds true [] 0 true])) j v = some cs := by
      intro j v cs hj h1 h2
      refine at_set_ne ?_ h2 _
      rw [hσ2]; exact at_app (at_set_ne (at_app hj _) h1 _) _
     have hnid : ∀ y ∈ pre ++ post, y.id ≠ eid ∧ y.id ≠ tid := by
      intro y hy
      have hm : y.id ∈ (pre ++ post).map Ent.id := List.mem_map.2 ⟨y, hy, rfl⟩
      rw [List.nodup_cons, List.nodup_cons] at hnd
      exact ⟨fun e => hnd.2.1 (e ▸ hm), fun e => hnd.1 (List.mem_cons_of_mem _ (e ▸ hm))⟩
     simp only [zd]
     refine ⟨_, _, ⟨rfl, ever + 1, pre, post, .ds true [] 0 true, rfl, rfl, ⟨?_, ?_, ?_, hnd, .inl ⟨rfl, rfl⟩, ?_, ?_, ?_, hlt⟩, keep h4 (by omega) (by have := of_eq_true htl2; omega), keep h5 (by omega) (by have := of_eq_true htl2; omega)⟩, .same ⟨rfl, rfl, rfl, rfl, rfl, trivial⟩ rfl⟩
     · have := Store.at_set (ver' := 0) (cs' := [.int .i64 3, .int .i64 0, .str [], .os true 2 eid (ever + 1) 0 ((pre ++ post).length + 1) false, .ds true [] 0 true]) ht2
       rw [this, hl2]
       simp only [Option.some.injEq, List.cons.injEq, AV.os.injEq, true_and, and_true]
       omega
     · refine at_set_ne ?_ hte.symm _
       rw [hσ2]; exact at_app (Store.at_set (at_app hR1.e _)) _
     · intro y hy; exact keep (hR1.tr y hy) (hnid y hy).1 (hnid y hy).2
     · intro y hy; exact List.mem_map.2 ⟨y, hy, rfl⟩
     · rw [hσ2]; simp; omega
     · intro j hj hjn
       simp only [List.mem_cons, not_or] at hjn
       rw [List.getElem?_set_ne (fun e => hjn.1 e.symm), hσ2, List.getElem?_append_left (by simp; omega), List.getElem?_set_ne (fun e => hjn.2.1 e.symm), List.getElem?_append_left (by omega)]
       exact hfr j hj
   · have hc' : p.2 = true := by simpa using hc
     rw [if_pos hc'] at hes1
     obtain rfl := Option.some.inj hes1
     obtain ⟨k, hk⟩ : ∃ k : Nat, p.1 = k := ⟨p.1.toNat, by have := (idxL_some he).1; omega⟩
     have he' := he
     rw [hk] at he'
     obtain ⟨g0, g1, g2, g3⟩ := idxL_some he'
     simp only [Int.toNat_natCast, hidL] at g1 g2 g3
     obtain ⟨pre, a, post, rfl, rfl⟩ := split_el (show k < L.length by omega)
     have hea : e = a.val := by
      rw [← g3]; simp
     subst hea
     refine zh ?_
     simp only [zd]
     refine ⟨_, σ1, ⟨rfl, ever, pre, post, .os true 5 a.id a.ver 0 a.trees.length false, hk, by simp, ⟨?_, ?_, ?_, ?_, ?_, ?_, ?_, ?_, ?_⟩, h4, h5⟩, .same ⟨rfl, rfl, rfl, rfl, rfl, trivial⟩ rfl⟩
     · have := hR1.t
       rw [List.length_append, List.length_cons, Nat.add_comm post.length 1] at this; exact this
     · have := hR1.e
       rw [List.flatMap_append, List.flatMap_cons] at this; exact this
     · intro y hy
       refine hR1.tr y ?_
       rcases List.mem_append.1 hy with h | h
       · exact List.mem_append_left _ h
       · exact List.mem_append_right _ (List.mem_cons_of_mem _ h)
     · have := hR1.nd
       refine List.Nodup.sublist ?_ this
       refine List.Sublist.cons_cons _ (List.Sublist.cons_cons _ ?_)
       exact (List.Sublist.append_left (List.sublist_cons_self _ _) _).map _
     · refine .inr ⟨a.id, a.ver, rfl, hR1.tr a (by simp), ?_, by simp⟩
       have := hR1.nd
       simp only [List.map_append, List.map_cons, List.nodup_cons, List.mem_cons, List.mem_append, List.nodup_append, not_or] at this ⊢
       obtain ⟨⟨h1, h2, h3, h4⟩, ⟨h5, h6, h7⟩, h8, ⟨h9, h10⟩, h11⟩ := this
       exact ⟨fun e => h3 e.symm, fun e => h6 e.symm, fun hm => h11 _ hm _ (.inl rfl) rfl, h9⟩
     · intro y hy
       rcases List.mem_append.1 hy with h | h
       · exact List.mem_map.2 ⟨y, List.mem_append_left _ h, rfl⟩
       · exact List.mem_map.2 ⟨y, List.mem_append_right _ (List.mem_cons_of_mem _ h), rfl⟩
     · omega
     · intro j hj _; exact hfr j hj
     · exact hlt
 · clear hes1 hp ht1 hR1 h4 h5 hn1 hfr σ1
   rintro _ τ ⟨rfl, ever1, pre, post, av, hp1, rfl, hM, h4, h5⟩
   rw [hp1] at he h
   simp only [Int.toNat_natCast] at h
   have hix : evIndexAddr tab 40 (.os true 2 eid ever1 0 (pre.length + (1 + post.length)) false) (.int .i64 p.1) = some (.op eid ever1 (pre.length * 2)) := by
    rw [hp1]
    simp only [evIndexAddr, tab_40, tab_61]
    simp
    omega
   have ht := hM.t
   refine rg tok [4, 5, 6, 9] fun K hK => ?_
   simp only [go_sem, rL, rE, rA, reduceCtorEq, ht, hix]
   refine hK _ _ ?_
   clear hK K
   have hcl : (pre.flatMap Ent.cells).length = pre.length * 2 := cells_len pre
   refine awp_join (fun F τ' => F = [(5, AV.op (σ.length + 1) 0 0), (6, .bool false), (9, .op eid ever1 (pre.length * 2))] ∧ ∃ av', Mid σ τ' tid eid ever1 (L.map Ent.id) pre post e.fTag av' (if f.fLabel = 3 then e.fTrees else []) ∧
    Store.at τ' (σ.length + 1) 0 = some [.int .i64 x.fKind, .int .i64 x.fN, .str x.fS, .ds true (List.flatMap encGEntry x.fEntries) x.fEntries.length false, .ds true (List.flatMap encGRaw x.fRest) x.fRest.length false]) ?_ ?_
   · refine rg tok [5, 6, 9, 43] fun K hK => ?_
     simp only [go_sem, rL, rE, rA, h4]
     refine hK _ _ ?_
     clear hK K
     refine awp_if rfl (fun hc => ?_) (fun hc => ?_)
     · obtain ⟨cs, hcs⟩ : ∃ cs, cs = pre.flatMap Ent.cells ++ ([.int .i64 e.fTag, av] ++ post.flatMap Ent.cells) := ⟨_, rfl⟩
       have hMe := hM.e
       rw [← hcs] at hMe
       have hle : (pre.length * 2 + 1 < cs.length) = True := eq_true (by rw [hcs]; simp only [List.length_append, hcl, List.length_cons, List.length_nil]; omega)
       have hle' : (pre.length * 2 + 1 + 1 ≤ cs.length) = True := eq_true (by have := of_eq_true hle; omega)
       refine rgE tok [5, 6, 9] fun K hK => ?_
       simp only [go_sem, rL, rE, hMe, hle']
       refine hK _ _ ?_
       clear hK K
       have hset : cs.set (pre.length * 2 + 1) (.ds true [] 0 true) = pre.flatMap Ent.cells ++ ([.int .i64 e.fTag, .ds true [] 0 true] ++ post.flatMap Ent.cells) := by
        rw [hcs, ← hcl, set_mid1]
       rw [hset]
       simp only [zd]
       rw [if_neg hc]
       have hnd := hM.nd
       have hlt := hM.lt
       rw [List.nodup_cons, List.nodup_cons] at hnd
       have hte : tid ≠ eid := fun e => hnd.1 (e ▸ List.mem_cons_self ..)
       refine ⟨_, _, ⟨rfl, .ds true [] 0 true, ⟨at_set_ne hM.t hte _, Store.at_set hM.e, ?_, hM.nd, .inl ⟨rfl, rfl⟩, hM.sub, ?_, ?_, hM.lt⟩, at_set_ne h5 ?_ _⟩, .same ⟨rfl, rfl, rfl, trivial⟩ rfl⟩
       · intro y hy
         refine at_set_ne (hM.tr y hy) ?_ _
         intro e; exact hnd.2.1 (e ▸ List.mem_map.2 ⟨y, hy, rfl⟩)
       · have := hM.len; simpa using this
       · intro j hj hjn
         rw [List.getElem?_set_ne]
         · exact hM.fr j hj hjn
         · intro e; exact hjn (e ▸ by simp)
       · have := hlt eid (by simp); omega
     · refine zh ?_
       simp only [zd]
       rw [if_pos hc]
       exact ⟨_, τ, ⟨rfl, av, hM, h5⟩, .same ⟨rfl, rfl, rfl, trivial⟩ rfl⟩
   · clear hM h4 h5 hix ht τ av
     rintro _ τ ⟨rfl, av, hM, h5⟩
     obtain ⟨cs, hcs⟩ : ∃ cs, cs = pre.flatMap Ent.cells ++ ([.int .i64 e.fTag, av] ++ post.flatMap Ent.cells) := ⟨_, rfl⟩
     have hMe := hM.e
     rw [← hcs] at hMe
     have hle : (pre.length * 2 + 1 < cs.length) = True := eq_true (by rw [hcs]; simp only [List.length_append, hcl, List.length_cons, List.length_nil]; omega)
     have hle' : (pre.length * 2 + 1 + 1 ≤ cs.length) = True := eq_true (by have := of_eq_true hle; omega)
     have hgc : gc cs (pre.length * 2 + 1) = av := by rw [hcs, ← hcl, gc_mid]
     have heid : (eid < τ.length) = True := eq_true (Store.at_lt hMe)
     refine rd [6, 9] fun K hK => ?_
     refine DW.start (T := tab) [.any, .any, .any, .any, .own 1 [], .at [], .eff, .eff, .any, .any, .eff] [(1, [])] ?_
     refine DW.runN tok 6 ?_
     simp only [go_sem, rL, rD, rE, rA, hMe, hle, hgc, heid, h5]
     obtain ⟨xc, hxc⟩ : ∃ xc, xc = [AV.int .i64 x.fKind, .int .i64 x.fN, .str x.fS, .ds true (List.flatMap encGEntry x.fEntries) x.fEntries.length false, .ds true (List.flatMap encGRaw x.fRest) x.fRest.length false] := ⟨_, rfl⟩
     have hx5 : xc.length = 5 := by rw [hxc]; rfl
     have hx1 : xc.all AV.one = true := by rw [hxc]; rfl
     have hxe : xc = encGTree x := by rw [hxc, encGTree_eq]; rfl
     generalize htr : (if f.fLabel = 3 then e.fTrees else []) = trees at *
     have key : ∃ nid nver τ3, evAppend tab 59 59 av (.os true 5 τ.length 0 0 1 true) (τ ++ [.cells 0 xc]) = some (.os true 5 nid nver 0 (trees.length + 1) false, τ3) ∧ Store.at τ3 nid nver = some (trees.flatMap encGTree ++ xc) ∧
      (∀ j v cs, Store.at τ j v = some cs → j ≠ nid → Store.at τ3 j v = some cs) ∧ nid ∉ tid :: eid :: (pre ++ post).map Ent.id ∧ (nid ∈ L.map Ent.id ∨ σ.length ≤ nid) ∧ τ.length ≤ τ3.length ∧ ∀ j, j < σ.length → j ∉ tid :: eid :: L.map Ent.id → τ3[j]? = τ[j]? := by
      have e1 : srcCells (τ ++ [.cells 0 xc]) 5 (.os true 5 τ.length 0 0 1 true) = some (1, xc) := by
       simp only [srcCells, at_end τ xc []]
       rw [if_pos (by omega), List.drop_zero, Nat.one_mul, ← hx5, List.take_length]
      rcases hM.c with ⟨rfl, h0⟩ | ⟨id, ver, rfl, h1, h2, h3⟩
      · refine ⟨τ.length + 1, 0, τ ++ [.cells 0 xc] ++ [.cells 0 xc], ?_, ?_, fun j v cs hj _ => at_app (at_app hj _) _, fun hj => ?_, .inr (by have := hM.len; omega), by simp, fun j hj _ => ?_⟩
        · subst h0
          simp only [evAppend, tab_59, tab_42, e1, lenOfAV, hx1, evAppendTo, if_true, List.length_append, List.length_cons, List.length_nil]
          simp
        · subst h0
          simp only [List.append_assoc, List.cons_append, List.nil_append]
          exact at_end1 _ _ _ _
        · have : τ.length + 1 < σ.length := hM.lt _ (by
           rcases List.mem_cons.1 hj with h | h
           · rw [h]; simp
           · rcases List.mem_cons.1 h with h | h
             · rw [h]; simp
             · obtain ⟨y, hy, h'⟩ := List.mem_map.1 h
               rw [← h']; exact List.mem_cons_of_mem _ (List.mem_cons_of_mem _ (hM.sub y hy)))
          have := hM.len; omega
        · have := hM.len
          rw [List.append_assoc, List.getElem?_append_left (by omega)]
      · refine ⟨id, ver + 1, List.set (τ ++ [AObj.cells 0 xc]) id (AObj.cells (ver + 1) (trees.flatMap encGTree ++ xc)), ?_, Store.at_set (at_app h1 _), fun j v cs hj hne => at_set_ne (at_app hj _) hne _, h2, .inl h3, by simp, fun j hj hjn => ?_⟩
        · have hl : (trees.flatMap encGTree).length = trees.length * 5 := zo E59.len trees
          have hg' : ((trees.length + 1) * 80 ≤ 140737488355328) = True := by
           rw [← htr]
           by_cases hl3 : f.fLabel = 3
           · rw [if_pos hl3]; rw [if_pos hl3] at hg; exact hg
           · rw [if_neg hl3]; simp
          simp only [evAppend, tab_59, tab_42, e1, lenOfAV, hx1, evAppendTo, at_app h1, hl, hg', and_self, rL, if_true]
        · have := hM.len
          rw [List.getElem?_set_ne, List.getElem?_append_left (by omega)]
          intro e; exact hjn (e ▸ List.mem_cons_of_mem _ (List.mem_cons_of_mem _ h3))
     obtain ⟨nid, nver, τ3, k1, k2, k3, k4, k5, k6, k7⟩ := key
     have hne : eid ≠ nid := fun e => k4 (e ▸ by simp)
     have hMe3 := k3 _ _ _ hMe hne
     refine DW.runN tok 1 ?_
     simp only [go_sem, rL, rD, rE, rA, rM, evBuildSlice, zeroRun, List.range_succ, List.range_zero, true_and, Nat.reduceMod, agr_app]
     rw [← hxc]
     refine DW.runN tok 1 ?_
     simp only [go_sem, rL, rD, rE, rA, k1]
     refine DW.runN tok 3 ?_
     simp only [go_sem, rL, rD, rE, rA, hMe3, hle']
     refine DW.fin tok (by decide +kernel) rfl ?_
     simp only [zd, upd, rE, reduceIte, zk, fs_nil]
     refine hK _ _ ?_
     clear hK K
     have hset : cs.set (pre.length * 2 + 1) (.os true 5 nid nver 0 (trees.length + 1) false) = pre.flatMap Ent.cells ++ ([.int .i64 e.fTag, .os true 5 nid nver 0 (trees.length + 1) false] ++ post.flatMap Ent.cells) := by
      rw [hcs, ← hcl, set_mid1]
     have hat4 := Store.at_set (ver' := ever1) (cs' := cs.set (pre.length * 2 + 1) (.os true 5 nid nver 0 (trees.length + 1) false)) hMe3
     generalize cs.set (pre.length * 2 + 1) (.os true 5 nid nver 0 (trees.length + 1) false) = cs4 at *
     have hgc4 : gc cs4 (pre.length * 2 + 1) = .os true 5 nid nver 0 (trees.length + 1) false := by rw [hset, ← hcl, gc_mid]
     have hle4 : (pre.length * 2 + 1 < cs4.length) = True := eq_true (by rw [hset]; simp only [List.length_append, hcl, List.length_cons, List.length_nil]; omega)
     refine rg tok [6] fun K hK => ?_
     simp only [go_sem, rL, rE, hat4, hgc4, hle4]
     refine hK _ _ ?_
     clear hK K
     refine zi ?_
     simp only [retQ, resAll, resOne, resAV, exists_eq_left', go_sem]
     have h' := Option.some.inj h
     obtain ⟨h1, h2⟩ := Prod.mk.inj h'
     have hnd := hM.nd
     have hlt := hM.lt
     rw [List.nodup_cons, List.nodup_cons] at hnd
     have hte : tid ≠ eid := fun e => hnd.1 (e ▸ List.mem_cons_self ..)
     have htn : tid ≠ nid := fun e => k4 (e ▸ by simp)
     have hll : (trees ++ [x]).length = trees.length + 1 := by simp
     refine ⟨ever1, pre ++ ⟨e.fTag, nid, nver, trees ++ [x]⟩ :: post, ?_, ⟨?_, ?_, ?_, ?_⟩, ?_, ?_, ?_, ?_⟩
     · rw [← h2, hll]
     · refine at_set_ne ?_ hte _
       have := k3 _ _ _ hM.t htn
       rw [this]
       simp only [Option.some.injEq, List.cons.injEq, AV.os.injEq, true_and, and_true, List.length_append, List.length_cons]
       omega
     · rw [hat4, hset]
       simp [Ent.cells]
     · intro y hy
       rcases List.mem_append.1 hy with hy | hy
       · refine at_set_ne (k3 _ _ _ (hM.tr y (List.mem_append_left _ hy)) ?_) ?_ _
         · intro e'; exact k4 (e' ▸ List.mem_cons_of_mem _ (List.mem_cons_of_mem _ (List.mem_map.2 ⟨y, List.mem_append_left _ hy, rfl⟩)))
         · intro e'; exact hnd.2.1 (e' ▸ List.mem_map.2 ⟨y, List.mem_append_left _ hy, rfl⟩)
       · rcases List.mem_cons.1 hy with rfl | hy
         · refine at_set_ne ?_ hne.symm _
           show Store.at τ3 nid nver = some ((trees ++ [x]).flatMap encGTree)
           rw [k2, List.flatMap_append, hxe]; simp
         · refine at_set_ne (k3 _ _ _ (hM.tr y (List.mem_append_right _ hy)) ?_) ?_ _
           · intro e'; exact k4 (e' ▸ List.mem_cons_of_mem _ (List.mem_cons_of_mem _ (List.mem_map.2 ⟨y, List.mem_append_right _ hy, rfl⟩)))
           · intro e'; exact hnd.2.1 (e' ▸ List.mem_map.2 ⟨y, List.mem_append_right _ hy, rfl⟩)
     · have hp : (nid :: tid :: eid :: (pre ++ post).map Ent.id).Nodup := List.nodup_cons.2 ⟨k4, hM.nd⟩
       refine (List.Perm.nodup_iff ?_).1 hp
       refine (List.Perm.swap _ _ _).trans (List.Perm.cons _ ((List.Perm.swap _ _ _).trans (List.Perm.cons _ ?_)))
       rw [List.map_append, List.map_append, List.map_cons]
       exact (List.perm_middle).symm
     · rw [← h1, ← hidL pre, set_mid]
       simp [Ent.val]
     · intro y hy
       rcases List.mem_append.1 hy with hy | hy
       · exact .inl (hM.sub y (List.mem_append_left _ hy))
       · rcases List.mem_cons.1 hy with rfl | hy
         · exact k5
         · exact .inl (hM.sub y (List.mem_append_right _ hy))
     · have := hM.len; simp; omega
     · intro j hj hjn
       rw [List.getElem?_set_ne (fun e => hjn (by rw [← e]; simp)), k7 j hj hjn]
       exact hM.fr j hj hjn
end Go.Proofs.YtaddlmlpeghonaaDoor
