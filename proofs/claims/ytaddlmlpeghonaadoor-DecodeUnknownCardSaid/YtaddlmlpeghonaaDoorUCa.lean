import Derived.Test.YtaddlmlpeghonaaDoorUT
import Derived.Test.YtaddlmlpeghonaaDoorUBz
import Derived.Shelf.Spec.SlicesInsert
import Derived.Lib.AppendZerosOnto
set_option linter.unusedSimpArgs false
set_option linter.unusedVariables false
namespace Go.Proofs.YtaddlmlpeghonaaDoor
open Go.RowKit AM
theorem setRun_ins (cs new : List AV) (k : Nat) (hk : k ≤ cs.length) (hn : new.length = 2) :
 setRun (setRun (cs ++ [.u, .u]) (k + 2) (cs.drop k)) k new = cs.take k ++ (new ++ cs.drop k) := by
 have e0 : cs ++ [AV.u, .u] = (cs.take k ++ ((cs.drop k ++ [AV.u, .u]).take 2)) ++ (((cs.drop k ++ [AV.u, .u]).drop 2) ++ []) := by
  rw [List.append_nil, List.append_assoc, List.take_append_drop, ← List.append_assoc, List.take_append_drop]
 have l1 : ((cs.drop k ++ [AV.u, .u]).take 2).length = 2 := by simp
 have l2 : (cs.take k ++ ((cs.drop k ++ [AV.u, .u]).take 2)).length = k + 2 := by rw [List.length_append, l1, List.length_take, Nat.min_eq_left hk]
 have e1 : setRun (cs ++ [.u, .u]) (k + 2) (cs.drop k) = (cs.take k ++ ((cs.drop k ++ [AV.u, .u]).take 2)) ++ (cs.drop k ++ []) := by
  rw [e0, ← l2]
  exact setRun_mid (cs.drop k) _ _ [] (by simp)
 rw [e1, List.append_nil, List.append_assoc]
 have l3 : (cs.take k).length = k := by rw [List.length_take, Nat.min_eq_left hk]
 have := setRun_mid new (cs.take k) ((cs.drop k ++ [AV.u, .u]).take 2) (cs.drop k) (by rw [l1, hn])
 rw [l3] at this
 exact this
theorem all_drop {l : List AV} {k : Nat} (h : l.all AV.one = true) : (l.drop k).all AV.one = true := by
 rw [List.all_eq_true] at *
 exact fun x hx => h x (List.mem_of_mem_drop hx)
theorem frozen_end {E : Env} {b : Nat} {cs : List AV} (h : Blk E b cs) {t : TypeId} {m : Nat} (hs : E.w.shape? b = some (t, m)) (ht : tsize t = 2) (o : Nat) : E.w.frozen? ⟨b, o, none⟩ = false := by
 obtain ⟨conc, t', fr, a1, a2, a3, a4⟩ := h.blk
 have : t' = t := by simp only [World.shape?, a1, Option.some.injEq, Prod.mk.injEq] at hs; exact hs.1
 subst this
 have he : fr.1 = fr.2 := by
  rcases a2 with h | ⟨_, h⟩
  · exact h
  · omega
 obtain ⟨lo, hi⟩ := fr
 simp only [World.frozen?, a1]
 simp only at he
 simp only [Bool.and_eq_false_iff, decide_eq_false_iff_not]
 omega
set_option maxHeartbeats 4000000 in
set_option maxRecDepth 100000 in
theorem ins_shift {E : Env} {σ : Store} (hS : SR E σ) {id ver n i b cap vid vver vb : Nat} {cells new : List AV} (hcs : Store.at σ id ver = some cells) (hlen : cells.length = n * 2) (hone : cells.all AV.one = true) (hi : i < n)
 (hloc : E.loc id = some (ver, some b)) (hok : E.ok id ver) {t m : Nat} (hsh : E.w.shape? b = some (t, m)) (hts : tsize t = 2) (hm : cap * 2 ≤ m) (hroom : n + 1 ≤ cap) (hn : (n + 1) * 32 ≤ 140737488355328)
 (hv : Store.at σ vid vver = some new) (hnew : new.length = 2) (honev : new.all AV.one = true) (hvid : vid ≠ id) (hvloc : E.loc vid = some (vver, some vb)) (hvok : E.ok vid vver) {tv mv : Nat} (hvsh : E.w.shape? vb = some (tv, mv)) (hvts : tsize tv = 2) (hvc : 2 ≤ mv) :
 Calls Tryd.prog 88 #[.slice (some ⟨b, 0, none⟩) n cap, .int .i64 i, .slice (some ⟨vb, 0, none⟩) 1 1] E.w fun e w' =>
  ∃ E', e = .returned (.slice (some ⟨b, 0, none⟩) (n + 1) cap) ∧ w' = E'.w ∧ VR E' (.os true 2 id ver 0 (n + 1) false) (.slice (some ⟨b, 0, none⟩) (n + 1) cap) ∧ SR E' (σ.set id (.cells ver (cells.take (i * 2) ++ (new ++ cells.drop (i * 2))))) ∧ Ext E E' := by
 have hvb : vb ≠ b := fun e => hvid (hS.inj _ _ _ _ b (e ▸ hvloc) hloc)
 have hB1 : Blk E b cells := by
  rcases hS.at hcs with ⟨b', h1, h2⟩ | ⟨_, h1⟩
  · rw [hloc] at h1; cases h1; exact h2
  · rw [hloc] at h1; cases h1
 have hB2 : Blk E vb new := by
  rcases hS.at hv with ⟨b', h1, h2⟩ | ⟨_, h1⟩
  · rw [hvloc] at h1; cases h1; exact h2
  · rw [hvloc] at h1; cases h1
 have hSw := hS.widen hcs hloc hsh 2 (by omega)
 obtain ⟨hS1, hx1⟩ := hSw.grew (Grew.drew E.w)
 have hcsw : Store.at (σ.set id (.cells ver (cells ++ List.replicate 2 AV.u))) id ver = some (cells ++ List.replicate 2 AV.u) := Store.at_set hcs
 have hlt := Store.at_lt hcs
 have hvw : Store.at (σ.set id (.cells ver (cells ++ List.replicate 2 AV.u))) vid vver = some new := by
  unfold Store.at at hv ⊢; rw [List.getElem?_set_ne (fun e => hvid e.symm)]; exact hv
 have os1 : ∀ {E' : Env} (hx : Ext E E') (k : Nat), k ≤ n → VR E' (.os true 2 id ver (k * 2) (n + 1 - k) false) (.slice (some ⟨b, k * 2, none⟩) (n + 1 - k) (cap - k)) := by
  intro E' hx k hk
  refine VR.ext hx (.os _ _ _ _ _ _ _ _ _ hok (by omega) (fun h => by cases h) (by omega) fun ob hob => ?_)
  rw [hloc] at hob; cases hob
  exact ⟨b, rfl, .inr rfl, t, m, hsh, hts, by omega⟩
 have osv : ∀ {E' : Env} (hx : Ext E E'), VR E' (.os true 2 vid vver 0 1 true) (.slice (some ⟨vb, 0, none⟩) 1 1) := by
  intro E' hx
  refine VR.ext hx (.os _ _ _ _ _ _ _ _ _ hvok (by omega) (fun _ => rfl) (by omega) fun ob hob => ?_)
  rw [hvloc] at hob; cases hob
  exact ⟨vb, rfl, .inr rfl, tv, mv, hvsh, hvts, by omega⟩
 have hov : ∀ lb cb, (callFunc 113 #[.slice (some ⟨vb, 0, none⟩) 1 1, .slice (some ⟨b, (i + 1) * 2, none⟩) lb cb]).run Tryd.prog E.w = .ok (.value (.bool false)) E.w := fun lb cb => by
  rw [run_callFunc_extern Tryd.func113 (by kernel_rfl) (by kernel_rfl) (by kernel_rfl) (e := Extern.SlicesOverlaps.overlaps #[40, 40] #[4]) (by kernel_rfl),
   Lib.run_overlaps_apart E.w 40 4 61 (tok _ _ tab_40).desc 2 (fun w => run_size w (tok _ _ tab_61)) ⟨vb, 0, none⟩ ⟨b, (i + 1) * 2, none⟩ 1 1 lb cb hvb tv t mv m hvsh hsh (by omega) (frozen_end hB2 hvsh hvts _) (frozen_end hB2 hvsh hvts _)]
  rfl
 have hdl : (cells.drop (i * 2)).length = (n - i) * 2 := by rw [List.length_drop, hlen, Nat.sub_mul]
 have hlw : (cells ++ List.replicate 2 AV.u).length = (n + 1) * 2 := by rw [List.length_append, hlen, List.length_replicate, Nat.add_mul]
 have hW : ∀ ty, ∃ v E2, (Builtin.copy_ #[40, 40] ty #[.slice (some ⟨b, (i + 1) * 2, none⟩) (n + 1 - (i + 1)) (cap - (i + 1)), .slice (some ⟨b, i * 2, none⟩) (n + 1 - i) (cap - i)]).run Tryd.prog E.w.drew = .ok v E2.w ∧
  SR E2 (σ.set id (.cells ver (setRun (cells ++ [.u, .u]) (i * 2 + 2) (cells.drop (i * 2))))) ∧ Ext E E2 := by
  intro ty
  have hx0 : Ext E { E with w := E.w.drew } := hx1
  have hd := os1 hx0 (i + 1) (by omega)
  have hs := os1 hx0 i (by omega)
  have hev : evCopy tab 40 (.os true 2 id ver ((i + 1) * 2) (n + 1 - (i + 1)) false) (.os true 2 id ver (i * 2) (n + 1 - i) false) (σ.set id (.cells ver (cells ++ List.replicate 2 AV.u))) =
   some (.int .i64 ((min (n + 1 - i) (n + 1 - (i + 1)) : Nat) : Int), (σ.set id (.cells ver (cells ++ List.replicate 2 AV.u))).set id (.cells ver (setRun (cells ++ List.replicate 2 AV.u) ((i + 1) * 2) (cells.drop (i * 2))))) := by
   have e1 : srcCells (σ.set id (.cells ver (cells ++ List.replicate 2 AV.u))) 2 (.os true 2 id ver (i * 2) (n + 1 - i) false) = some (n + 1 - i, ((cells ++ List.replicate 2 AV.u).drop (i * 2)).take ((n + 1 - i) * 2)) := by
    simp only [srcCells, hcsw]
    rw [if_pos (by rw [hlw, ← Nat.add_mul]; exact Nat.mul_le_mul_right _ (by omega))]
   have e2 : min (n + 1 - i) (n + 1 - (i + 1)) = n - i := by omega
   have e3 : (((cells ++ List.replicate 2 AV.u).drop (i * 2)).take ((n + 1 - i) * 2)).take ((n - i) * 2) = cells.drop (i * 2) := by
    rw [List.take_take, Nat.min_eq_left (Nat.mul_le_mul_right _ (by omega)), List.drop_append_of_le_length (by rw [hlen]; exact Nat.mul_le_mul_right _ (by omega)), List.take_append_of_le_length (by rw [hdl]; exact Nat.le_refl _), ← hdl, List.take_length]
   have hp : putInto (σ.set id (.cells ver (cells ++ List.replicate 2 AV.u))) (.os true 2 id ver ((i + 1) * 2) (n + 1 - (i + 1)) false) (n - i) 2 (cells.drop (i * 2)) = some ((σ.set id (.cells ver (cells ++ List.replicate 2 AV.u))).set id (.cells ver (setRun (cells ++ List.replicate 2 AV.u) ((i + 1) * 2) (cells.drop (i * 2))))) := by
    unfold putInto
    rw [if_neg (by omega)]
    simp only [hcsw]
    rw [if_pos ⟨trivial, by rw [hlw, hdl, ← Nat.add_mul]; exact Nat.mul_le_mul_right _ (by omega), all_drop hone⟩]
   simp only [evCopy, tab_40, tab_61, e1, e2, e3, hp]
  obtain ⟨v, E2, h1, h2, h3, h4⟩ := run_evCopy (P := Tryd.prog) (st := 40) (ty := ty) tok hS1 hd hs hev
  refine ⟨v, E2, h1, ?_, hx0.trans h4⟩
  rw [List.set_set] at h3
  have e : (i + 1) * 2 = i * 2 + 2 := by omega
  rw [e] at h3
  exact h3
 obtain ⟨v1, E2, hc1, hS2, hx2⟩ := hW 3
 rw [show n + 1 - (i + 1) = n - i by omega] at hc1
 have hcs2 : Store.at (σ.set id (.cells ver (setRun (cells ++ [.u, .u]) (i * 2 + 2) (cells.drop (i * 2))))) id ver = some (setRun (cells ++ [.u, .u]) (i * 2 + 2) (cells.drop (i * 2))) := Store.at_set hcs
 have hv2 : Store.at (σ.set id (.cells ver (setRun (cells ++ [.u, .u]) (i * 2 + 2) (cells.drop (i * 2))))) vid vver = some new := by
  unfold Store.at at hv ⊢; rw [List.getElem?_set_ne (fun e => hvid e.symm)]; exact hv
 have hW2 : ∃ v E3, (Builtin.copy_ #[40, 40] 3 #[.slice (some ⟨b, i * 2, none⟩) (n + 1 - i) (cap - i), .slice (some ⟨vb, 0, none⟩) 1 1]).run Tryd.prog E2.w = .ok v E3.w ∧
  SR E3 (σ.set id (.cells ver (cells.take (i * 2) ++ (new ++ cells.drop (i * 2))))) ∧ Ext E E3 := by
  have hd := os1 hx2 i (by omega)
  have hs := osv hx2
  have hev : evCopy tab 40 (.os true 2 id ver (i * 2) (n + 1 - i) false) (.os true 2 vid vver 0 1 true) (σ.set id (.cells ver (setRun (cells ++ [.u, .u]) (i * 2 + 2) (cells.drop (i * 2))))) =
   some (.int .i64 ((min 1 (n + 1 - i) : Nat) : Int), (σ.set id (.cells ver (setRun (cells ++ [.u, .u]) (i * 2 + 2) (cells.drop (i * 2))))).set id (.cells ver (setRun (setRun (cells ++ [.u, .u]) (i * 2 + 2) (cells.drop (i * 2))) (i * 2) new))) := by
   have e1 : srcCells (σ.set id (.cells ver (setRun (cells ++ [.u, .u]) (i * 2 + 2) (cells.drop (i * 2))))) 2 (.os true 2 vid vver 0 1 true) = some (1, new) := by
    simp only [srcCells, hv2]
    rw [if_pos (by omega), List.drop_zero, ← hnew, Nat.one_mul] 
    rw [show new.length = new.length from rfl, List.take_length]
   have e2 : min 1 (n + 1 - i) = 1 := by omega
   have e3 : new.take (1 * 2) = new := by rw [Nat.one_mul, ← hnew, List.take_length]
   have hp : putInto (σ.set id (.cells ver (setRun (cells ++ [.u, .u]) (i * 2 + 2) (cells.drop (i * 2))))) (.os true 2 id ver (i * 2) (n + 1 - i) false) 1 2 new = some ((σ.set id (.cells ver (setRun (cells ++ [.u, .u]) (i * 2 + 2) (cells.drop (i * 2))))).set id (.cells ver (setRun (setRun (cells ++ [.u, .u]) (i * 2 + 2) (cells.drop (i * 2))) (i * 2) new))) := by
    unfold putInto
    rw [if_neg (by omega)]
    simp only [hcs2]
    rw [if_pos ⟨trivial, by rw [length_setRun, hnew]; simp only [List.length_append, List.length_cons, List.length_nil, hlen]; omega, honev⟩]
   simp only [evCopy, tab_40, tab_61, e1, e2, e3, hp]
  obtain ⟨v, E3, h1, h2, h3, h4⟩ := run_evCopy (P := Tryd.prog) (st := 40) (ty := 3) tok hS2 hd hs hev
  refine ⟨v, E3, h1, ?_, hx2.trans h4⟩
  rw [List.set_set, setRun_ins _ _ _ (by omega) hnew] at h3
  exact h3
 obtain ⟨v2, E3, hc2, hS3, hx3⟩ := hW2
 have hfin := os1 hx3 0 (Nat.zero_le _)
 rw [Nat.zero_mul, Nat.sub_zero, Nat.sub_zero] at hfin
 have hz1 : ¬ ((i : Int) = (n : Int)) := by omega
 have hw1 : IntKind.i64.wrap ((i : Int) + 1) = (i : Int) + 1 := by rw [IntKind.wrap_i64]; omega
 have hw2 : IntKind.i64.wrap ((n : Int) + 1) = (n : Int) + 1 := by rw [IntKind.wrap_i64]; omega
 have hb1 : (0 : Int) ≤ (i : Int) + 1 := by omega
 have hin : i ≤ n := by omega
 have htn : ((i : Int) + 1).toNat = i + 1 := by omega
 have hb2 : ¬ (cap = i + 1) := by omega
 have hb3 : (i : Int) ≤ (n : Int) + 1 := by omega
 have hb4 : ¬ (cap = i) := by omega
 have mixed : Tryd.prog.follows .mixedOrders = true := by kernel_rfl
 clear hS hcs hcsw hvw hcs2 hv2 hS1 hSw os1 osv hB1 hB2 hW
 go_enter Tryd.func88, Tryd.ntmps88
 go_wp2_with (simp only [hov])
 go_region_law_o (refine step_copy_runI rfl _ _ 40 40 rfl _ _ (by simp [Act.eval, Act.put]) (by simp [Act.eval, Act.put]) hc1 ?_)
 go_wp2_with (at_builtin; refine wpList_copy_runI _ rfl _ _ 40 40 rfl _ _ rfl rfl hc2 ?_)
 go_ret
 exact ⟨E3, rfl, rfl, hfin, hS3, hx3⟩
theorem setRun_ins2 (cs new : List AV) (k : Nat) (hk : k ≤ cs.length) (hn : new.length = 2) (q : Nat) (hq : q = cs.length - k + 2) :
 setRun (setRun (cs.take k ++ List.replicate q AV.u) k new) (k + 2) (cs.drop k) = cs.take k ++ (new ++ cs.drop k) := by
 have l3 : (cs.take k).length = k := by rw [List.length_take, Nat.min_eq_left hk]
 have e0 : cs.take k ++ List.replicate q AV.u = cs.take k ++ (List.replicate 2 AV.u ++ List.replicate (cs.length - k) AV.u) := by
  rw [List.replicate_append_replicate, hq, Nat.add_comm]
 have e1 : setRun (cs.take k ++ List.replicate q AV.u) k new = cs.take k ++ (new ++ List.replicate (cs.length - k) AV.u) := by
  rw [e0]
  have := setRun_mid new (cs.take k) (List.replicate 2 AV.u) (List.replicate (cs.length - k) AV.u) (by simp [hn])
  rw [l3] at this; exact this
 have l4 : (cs.take k ++ new).length = k + 2 := by rw [List.length_append, l3, hn]
 rw [e1, ← List.append_assoc, ← l4]
 have := setRun_mid (cs.drop k) (cs.take k ++ new) (List.replicate (cs.length - k) AV.u) [] (by simp)
 rw [List.append_nil, List.append_nil] at this
 rw [this, List.append_assoc]
set_option maxHeartbeats 4000000 in
set_option maxRecDepth 100000 in
theorem ins_grow {E : Env} {σ : Store} (hS : SR E σ) {id ver n i b vid vver vb : Nat} {cells new : List AV} (hcs : Store.at σ id ver = some cells) (hlen : cells.length = n * 2) (hone : cells.all AV.one = true) (hi : i < n)
 (hloc : E.loc id = some (ver, some b)) (hok : E.ok id ver) {t m : Nat} (hsh : E.w.shape? b = some (t, m)) (hts : tsize t = 2) (hm : n * 2 ≤ m) (hn : (n + 1) * 32 ≤ 140737488355328)
 (hv : Store.at σ vid vver = some new) (hnew : new.length = 2) (honev : new.all AV.one = true) (hvid : vid ≠ id) (hvloc : E.loc vid = some (vver, some vb)) (hvok : E.ok vid vver) {tv mv : Nat} (hvsh : E.w.shape? vb = some (tv, mv)) (hvts : tsize tv = 2) (hvc : 2 ≤ mv) :
 Calls Tryd.prog 88 #[.slice (some ⟨b, 0, none⟩) n n, .int .i64 i, .slice (some ⟨vb, 0, none⟩) 1 1] E.w fun e w' =>
  ∃ E' v, e = .returned v ∧ w' = E'.w ∧ VR E' (.os true 2 σ.length 0 0 (n + 1) false) v ∧ SR E' (σ ++ [.cells 0 (cells.take (i * 2) ++ (new ++ cells.drop (i * 2)))]) ∧ Ext E E' ∧ ∀ i2 v2 nb, E.loc i2 = some (v2, some nb) → E'.loc σ.length = some (0, some nb) → False := by
 have hvb : vb ≠ b := fun e => hvid (hS.inj _ _ _ _ b (e ▸ hvloc) hloc)
 have hlt := Store.at_lt hcs
 have hltv := Store.at_lt hv
 obtain ⟨hS1, hx1⟩ := hS.grew (Grew.drew E.w)
 have os1 : ∀ {E' : Env} (hx : Ext E E') (k q : Nat), k + q ≤ n → VR E' (.os true 2 id ver (k * 2) q false) (.slice (some ⟨b, k * 2, none⟩) q (n - k)) := by
  intro E' hx k q hk
  refine VR.ext hx (.os _ _ _ _ _ _ _ _ _ hok (by omega) (fun h => by cases h) (by omega) fun ob hob => ?_)
  rw [hloc] at hob; cases hob
  exact ⟨b, rfl, .inr rfl, t, m, hsh, hts, by omega⟩
 have osv : ∀ {E' : Env} (hx : Ext E E'), VR E' (.os true 2 vid vver 0 1 true) (.slice (some ⟨vb, 0, none⟩) 1 1) := by
  intro E' hx
  refine VR.ext hx (.os _ _ _ _ _ _ _ _ _ hvok (by omega) (fun h => rfl) (by omega) fun ob hob => ?_)
  rw [hvloc] at hob; cases hob
  exact ⟨vb, rfl, .inr rfl, tv, mv, hvsh, hvts, by omega⟩
 have htl : (cells.take (i * 2)).length = i * 2 := by rw [List.length_take, hlen]; omega
 have hdl : (cells.drop (i * 2)).length = (n - i) * 2 := by rw [List.length_drop, hlen, Nat.sub_mul]
 -- what is copied by append
 have hold0 := os1 hx1 0 i (by omega)
 rw [Nat.zero_mul] at hold0
 obtain ⟨_, _, hrd⟩ := run_src (P := Tryd.prog) hS1 hold0 (size := 2) (n := i) (cs := cells.take (i * 2)) (by
  simp only [srcCells, hcs]
  rw [if_pos (by omega), List.drop_zero])
 obtain ⟨os, hos, hto⟩ := hrd i (Nat.le_refl _)
 rw [show (cells.take (i * 2)).take (i * 2) = cells.take (i * 2) by rw [List.take_take, Nat.min_self]] at hto
 obtain ⟨G, hG⟩ : ∃ G, G = grownCap E.w (n + 1) n 61 := ⟨_, rfl⟩
 have hGn : n + 1 ≤ G := by rw [hG]; unfold grownCap; simp only [Question.cut]; omega
 obtain ⟨conc, hconc⟩ : ∃ conc : Array Value, conc = os ++ Builtin.zeroCells (Value.agg #[Value.int IntKind.i64 0, Value.slice none 0 0]).cells (n + 1 - i) ++ Builtin.zeroCells (Value.agg #[Value.int IntKind.i64 0, Value.slice none 0 0]).cells (G - (n + 1)) := ⟨_, rfl⟩
 have hrz : ∀ ty, (Builtin.append_ #[40, 3] ty #[.slice (some ⟨b, 0, none⟩) i n, .int .i64 ((n : Int) + 1 - (i : Int))]).run Tryd.prog E.w =
  .ok (.slice (some ⟨E.w.heap.size, 0, none⟩) (n + 1) G) (E.w.drew.alloc (.cells conc 61)) := fun ty => by
  have h := Lib.run_append_grow_zeros (P := Tryd.prog) E.w 40 3 ty 61 Tryd.t61 _ .i64 .i64 Tryd.underlying40 Tryd.underlying3 Tryd.type61 rfl (some ⟨b, 0, none⟩) i n os.toList (by rw [Array.toArray_toList]; exact hos) (n + 1 - i) (by omega) (by decide) (by omega) (by omega) (by show (n + 1 - i) * 32 ≤ _; omega) (by
   rw [show i + (n + 1 - i) = n + 1 by omega]
   exact growslice_fits (by omega) (by show (n + 1) * 32 ≤ _; omega))
  rw [show i + (n + 1 - i) = n + 1 by omega, ← hG, Array.toArray_toList, ← hconc] at h
  rw [show (n : Int) + 1 - (i : Int) = ((n + 1 - i : Nat) : Int) by omega]
  exact h
 have hsz1 : os.size = i * 2 := by rw [hto.1, htl]
 have hcsz : G * 2 ≤ conc.size := by
  rw [hconc]
  simp only [Array.size_append, hsz1, Builtin.zeroCells, Value.cells]
  simp
  omega
 have hnr := hS1.newRow conc 61 (cells.take (i * 2) ++ List.replicate ((n + 1 - i) * 2) AV.u) (by rw [List.length_append, htl, List.length_replicate]; omega) (by
  intro k hk
  by_cases hki : k < i * 2
  · rw [gc_append_left _ _ _ (by rw [htl]; exact hki)]
    have := hto.2 k (by rw [htl]; exact hki)
    have e : conc.getD k undef = os.getD k undef := by
     rw [hconc, Array.append_assoc]
     simp [Array.getElem?_append_left (show k < os.size by omega)]
    rw [e]; exact this
  · rw [gc_append_right _ _ _ (by rw [htl]; omega)]
    have : gc (List.replicate ((n + 1 - i) * 2) AV.u) (k - (cells.take (i * 2)).length) = .u := by
     unfold gc
     rw [List.getD_eq_getElem?_getD, List.getElem?_replicate]
     split <;> rfl
    rw [this]; exact .u _)
 obtain ⟨hS2, hx2⟩ := hnr
 obtain ⟨E2, hE2⟩ : ∃ E2, E2 = Env.new { E with w := E.w.drew } (E.w.drew.alloc (.cells conc 61)) (some E.w.drew.heap.size) := ⟨_, rfl⟩
 have hloc2 : E2.loc σ.length = some (0, some E.w.heap.size) := by rw [hE2]; exact Env.loc_new hS1 _ _
 have hok2 : E2.ok σ.length 0 := by rw [hE2]; exact Env.ok_new hS1 _ _
 have hE2w : E2.w = E.w.drew.alloc (.cells conc 61) := by rw [hE2]; rfl
 rw [← hE2] at hS2 hx2
 have hx02 : Ext E E2 := Ext.trans hx1 hx2
 have hsh2 : E2.w.shape? E.w.heap.size = some (61, conc.size) := by
  rw [hE2w]
  have := heap_push_new E.w.drew (.cells conc 61)
  simp only [World.shape?]
  rw [show E.w.heap.size = E.w.drew.heap.size from rfl, this]
 have osn : ∀ {E' : Env} (hx : Ext E2 E') (k q : Nat), k + q ≤ n + 1 → VR E' (.os true 2 σ.length 0 (k * 2) q false) (.slice (some ⟨E.w.heap.size, k * 2, none⟩) q (G - k)) := by
  intro E' hx k q hk
  refine VR.ext hx (.os _ _ _ _ _ _ _ _ _ hok2 (by omega) (fun h => by cases h) (by omega) fun ob hob => ?_)
  rw [hloc2] at hob; cases hob
  exact ⟨_, rfl, .inr rfl, _, _, hsh2, rfl, by omega⟩
 have hat2 : ∀ cs, Store.at (σ ++ [.cells 0 cs]) σ.length 0 = some cs := fun cs => Store.at_new σ 0 cs
 have hset2 : ∀ cs cs', (σ ++ [AObj.cells 0 cs]).set σ.length (.cells 0 cs') = σ ++ [.cells 0 cs'] := fun cs cs' => by
  rw [List.set_append_right _ _ (Nat.le_refl _), Nat.sub_self]; rfl
 have hold2 : ∀ {id ver : Nat} {c cs : List AV}, Store.at σ id ver = some c → Store.at (σ ++ [AObj.cells 0 cs]) id ver = some c := by
  intro id ver c cs h
  have := Store.at_lt h
  unfold Store.at at h ⊢; rw [List.getElem?_append_left this]; exact h
 -- the first copy
 have hW2 : ∃ v E3, (Builtin.copy_ #[40, 40] 3 #[.slice (some ⟨E.w.heap.size, i * 2, none⟩) (n + 1 - i) (G - i), .slice (some ⟨vb, 0, none⟩) 1 1]).run Tryd.prog E2.w = .ok v E3.w ∧
  SR E3 (σ ++ [.cells 0 (setRun (cells.take (i * 2) ++ List.replicate ((n + 1 - i) * 2) AV.u) (i * 2) new)]) ∧ Ext E2 E3 := by
  have hd := osn (Ext.refl E2) i (n + 1 - i) (by omega)
  have hs := osv hx02
  have hev : evCopy tab 40 (.os true 2 σ.length 0 (i * 2) (n + 1 - i) false) (.os true 2 vid vver 0 1 true) (σ ++ [.cells 0 (cells.take (i * 2) ++ List.replicate ((n + 1 - i) * 2) AV.u)]) =
   some (.int .i64 ((min 1 (n + 1 - i) : Nat) : Int), σ ++ [.cells 0 (setRun (cells.take (i * 2) ++ List.replicate ((n + 1 - i) * 2) AV.u) (i * 2) new)]) := by
   have e1 : srcCells (σ ++ [.cells 0 (cells.take (i * 2) ++ List.replicate ((n + 1 - i) * 2) AV.u)]) 2 (.os true 2 vid vver 0 1 true) = some (1, new) := by
    simp only [srcCells, hold2 hv]
    rw [if_pos (by omega), List.drop_zero, Nat.one_mul, ← hnew, List.take_length]
   have e2 : min 1 (n + 1 - i) = 1 := by omega
   have e3 : new.take (1 * 2) = new := by rw [Nat.one_mul, ← hnew, List.take_length]
   have hp : putInto (σ ++ [.cells 0 (cells.take (i * 2) ++ List.replicate ((n + 1 - i) * 2) AV.u)]) (.os true 2 σ.length 0 (i * 2) (n + 1 - i) false) 1 2 new = some (σ ++ [.cells 0 (setRun (cells.take (i * 2) ++ List.replicate ((n + 1 - i) * 2) AV.u) (i * 2) new)]) := by
    unfold putInto
    rw [if_neg (by omega)]
    simp only [hat2, hset2]
    rw [if_pos ⟨trivial, by rw [hnew, List.length_append, htl, List.length_replicate]; omega, honev⟩]
   simp only [evCopy, tab_40, tab_61, e1, e2, e3, hp]
  obtain ⟨v, E3, h1, h2, h3, h4⟩ := run_evCopy (P := Tryd.prog) (st := 40) (ty := 3) tok hS2 hd hs hev
  exact ⟨v, E3, h1, h3, h4⟩
 obtain ⟨v1, E3, hc1, hS3, hx3⟩ := hW2
 obtain ⟨hS4, hx4⟩ := hS3.grew (Grew.drew E3.w)
 -- the second copy
 have hW3 : ∀ ty, ∃ v E4, (Builtin.copy_ #[40, 40] ty #[.slice (some ⟨E.w.heap.size, (i + 1) * 2, none⟩) (n - i) (G - (i + 1)), .slice (some ⟨b, i * 2, none⟩) (n - i) (n - i)]).run Tryd.prog E3.w.drew = .ok v E4.w ∧
  SR E4 (σ ++ [.cells 0 (cells.take (i * 2) ++ (new ++ cells.drop (i * 2)))]) ∧ Ext E2 E4 := by
  intro ty
  have hx24 : Ext E2 { E3 with w := E3.w.drew } := Ext.trans hx3 hx4
  have hd := osn hx24 (i + 1) (n - i) (by omega)
  have hs := os1 (hx02.trans hx24) i (n - i) (by omega)
  have hev : evCopy tab 40 (.os true 2 σ.length 0 ((i + 1) * 2) (n - i) false) (.os true 2 id ver (i * 2) (n - i) false) (σ ++ [.cells 0 (setRun (cells.take (i * 2) ++ List.replicate ((n + 1 - i) * 2) AV.u) (i * 2) new)]) =
   some (.int .i64 ((min (n - i) (n - i) : Nat) : Int), σ ++ [.cells 0 (cells.take (i * 2) ++ (new ++ cells.drop (i * 2)))]) := by
   have e1 : srcCells (σ ++ [.cells 0 (setRun (cells.take (i * 2) ++ List.replicate ((n + 1 - i) * 2) AV.u) (i * 2) new)]) 2 (.os true 2 id ver (i * 2) (n - i) false) = some (n - i, cells.drop (i * 2)) := by
    simp only [srcCells, hold2 hcs]
    rw [if_pos (by rw [hlen, ← Nat.add_mul]; exact Nat.mul_le_mul_right _ (by omega)), ← hdl, List.take_length]
   have e2 : min (n - i) (n - i) = n - i := by omega
   have e3 : (cells.drop (i * 2)).take ((n - i) * 2) = cells.drop (i * 2) := by rw [← hdl, List.take_length]
   have hp : putInto (σ ++ [.cells 0 (setRun (cells.take (i * 2) ++ List.replicate ((n + 1 - i) * 2) AV.u) (i * 2) new)]) (.os true 2 σ.length 0 ((i + 1) * 2) (n - i) false) (n - i) 2 (cells.drop (i * 2)) = some (σ ++ [.cells 0 (cells.take (i * 2) ++ (new ++ cells.drop (i * 2)))]) := by
    unfold putInto
    rw [if_neg (by omega)]
    simp only [hat2, hset2]
    rw [if_pos ⟨trivial, by rw [hdl, length_setRun, List.length_append, htl, List.length_replicate]; omega, all_drop hone⟩]
    rw [show (i + 1) * 2 = i * 2 + 2 by omega, setRun_ins2 _ _ _ (by omega) hnew _ (by rw [hlen]; omega)]
   simp only [evCopy, tab_40, tab_61, e1, e2, e3, hp]
  obtain ⟨v, E4, h1, h2, h3, h4⟩ := run_evCopy (P := Tryd.prog) (st := 40) (ty := ty) tok hS4 hd hs hev
  exact ⟨v, E4, h1, h3, hx24.trans h4⟩
 obtain ⟨v2, E4, hc2, hS5, hx5⟩ := hW3 3
 have hfin : VR E4 (.os true 2 σ.length 0 0 (n + 1) false) (.slice (some ⟨E.w.heap.size, 0, none⟩) (n + 1) G) := by
  have := osn hx5 0 (n + 1) (by omega)
  rwa [Nat.zero_mul, Nat.sub_zero] at this
 have hxf : Ext E E4 := hx02.trans hx5
 have hnew' : ∀ i2 v2 nb, E.loc i2 = some (v2, some nb) → E4.loc σ.length = some (0, some nb) → False := by
  intro i2 v2 nb h1 h2
  have h3 := hx5.back hok2 h2
  rw [hloc2] at h3; cases h3
  have := (hS.blk _ _ _ h1).1
  omega
 have hz1 : ¬ ((i : Int) = (n : Int)) := by omega
 have hw1 : IntKind.i64.wrap ((i : Int) + 1) = (i : Int) + 1 := by rw [IntKind.wrap_i64]; omega
 have hw2 : IntKind.i64.wrap ((n : Int) + 1) = (n : Int) + 1 := by rw [IntKind.wrap_i64]; omega
 have hw3 : IntKind.i64.wrap ((n : Int) + 1 - (i : Int)) = (n : Int) + 1 - (i : Int) := by rw [IntKind.wrap_i64]; omega
 have hb1 : (0 : Int) ≤ (i : Int) + 1 := by omega
 have hin : i ≤ n := by omega
 have htn : ((i : Int) + 1).toNat = i + 1 := by omega
 have hb2 : ¬ (G = i + 1) := by omega
 have hb3 : (i : Int) ≤ (n : Int) + 1 := by omega
 have hb4 : ¬ (G = i) := by omega
 have hb5 : ¬ (n = i) := by omega
 have hz3 : (n : Int) < (n : Int) + 1 := by omega
 have mixed : Tryd.prog.follows .mixedOrders = true := by kernel_rfl
 have hrz1 := hrz 40
 rw [← hE2w] at hrz1
 clear hS hcs hS1 os1 osv hrz hrd hos hto hS2 hx2 osn hold2 hset2 hat2 hW3 hE2 hE2w hloc2 hok2 hsh2 hx02 hold0 hG hconc hcsz
 go_enter Tryd.func88, Tryd.ntmps88
 go_wp2_with (first
  | (at_builtin; refine Lib.wpList_append_run _ rfl _ _ _ _ rfl _ _ rfl rfl _ _ hrz1 ?_)
  | (at_builtin; refine wpList_copy_runI _ rfl _ _ 40 40 rfl _ _ rfl rfl hc1 ?_))
 go_region_law_o (refine step_copy_runI rfl _ _ 40 40 rfl _ _ (by simp [Act.eval, Act.put]) (by simp [Act.eval, Act.put]) hc2 ?_)
 go_wp2
 go_ret
 exact ⟨E4, _, rfl, rfl, hfin, hS5, hxf, hnew'⟩
end Go.Proofs.YtaddlmlpeghonaaDoor
