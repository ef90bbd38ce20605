import Derived.Test.YtaddlmlpeghonaaDoorUCa
set_option linter.unusedSimpArgs false
set_option linter.unusedVariables false
set_option maxRecDepth 20000
namespace Go.Proofs.YtaddlmlpeghonaaDoor
open Nat renaming reduceLT → rL, reduceLeDiff → rD, reduceEqDiff → rE, reduceAdd → rA, reduceMul → rM, reduceSub → rS
open Go.RowKit AM
theorem SR.die {E : Env} {σ : Store} (hS : SR E σ) : SR { E with n := E.n + 1 } (σ ++ [.dead]) ∧ Ext E { E with n := E.n + 1 } := by
 have hx : Ext E { E with n := E.n + 1 } := {
  os := rfl, tape := rfl, output := rfl, size := Nat.le_refl _, shape := fun _ _ h => h, st := fun _ h => ⟨h, rfl⟩, n := Nat.le_succ _,
  loc := fun _ _ v o h => ⟨v, o, h, Nat.le_refl _, fun _ => rfl⟩, old := fun _ _ _ => rfl, own := fun id v _ h _ => ⟨id, v, h⟩, stn := fun _ h => .inl h }
 have hn : E.loc σ.length = none := by
  have := hS.obj σ.length
  rw [List.getElem?_eq_none (Nat.le_refl _)] at this
  exact this
 refine ⟨⟨by simp [hS.len], fun id => ?_, hS.inj, hS.blk, hS.stb, hS.glb⟩, hx⟩
 by_cases h1 : id < σ.length
 · rw [List.getElem?_append_left h1]
   exact (hS.obj id).ext hx rfl fun _ _ _ => rfl
 · by_cases h2 : id = σ.length
   · subst h2
     rw [List.getElem?_append_right (Nat.le_refl _), Nat.sub_self]
     exact hn
   · rw [List.getElem?_eq_none (by simp; omega)]
     have := hS.obj id
     rw [List.getElem?_eq_none (by omega)] at this
     exact this
theorem SR.swap {E : Env} {σ : Store} {cs : List AV} (hS : SR E (σ ++ [.cells 0 cs])) {id ver b nb : Nat} (hlt : id < σ.length) (hl : E.loc id = some (ver, some b)) (hn : E.loc σ.length = some (0, some nb)) :
 let E' : Env := { E with loc := fun i => if i = id then some (ver + 1, some nb) else if i = σ.length then none else E.loc i }
 SR E' (σ.set id (.cells (ver + 1) cs) ++ [.dead]) ∧ ExtV E E' ∧ ∀ sz len v, VR E (.os true sz σ.length 0 0 len false) v → VR E' (.os true sz id (ver + 1) 0 len false) v := by
 intro E'
 have hid : E'.loc id = some (ver + 1, some nb) := by simp [E']
 have hlast : E'.loc σ.length = none := by simp [E']; omega
 have hother : ∀ i, i ≠ id → i ≠ σ.length → E'.loc i = E.loc i := fun i h1 h2 => by simp [E', h1, h2]
 have hx : ExtV E E' := {
  shape := fun _ _ h => h
  st := fun _ h => ⟨h, rfl⟩
  n := Nat.le_refl _
  loc := fun i _ v o h => by
   by_cases h1 : i = id
   · subst h1; rw [hid] at h; cases h; exact ⟨ver, some b, hl, by omega, fun e => by omega⟩
   · by_cases h2 : i = σ.length
     · subst h2; rw [hlast] at h; cases h
     · rw [hother i h1 h2] at h; exact ⟨v, o, h, Nat.le_refl _, fun _ => rfl⟩ }
 have hnE : E.n = σ.length + 1 := by have := hS.len; simp at this; omega
 have hold : ∀ i v c, E'.loc i = some (v, some c) → (i = id ∧ c = nb) ∨ (i ≠ id ∧ i ≠ σ.length ∧ E.loc i = some (v, some c)) := by
  intro i v c h
  by_cases h1 : i = id
  · subst h1; rw [hid] at h; cases h; exact .inl ⟨rfl, rfl⟩
  · by_cases h2 : i = σ.length
    · subst h2; rw [hlast] at h; cases h
    · rw [hother i h1 h2] at h; exact .inr ⟨h1, h2, h⟩
 refine ⟨⟨by simp [hnE, E'], fun i => ?_, fun i i' v v' c h1 h2 => ?_, fun i v c h => ?_, hS.stb, hS.glb⟩, hx, fun sz len v h => ?_⟩
 · by_cases h1 : i = id
   · subst h1
     rw [List.getElem?_append_left (by simpa using hlt), List.getElem?_set_self hlt]
     have := hS.obj σ.length
     rw [List.getElem?_append_right (Nat.le_refl _), Nat.sub_self] at this
     rcases this with ⟨c, e1, e2⟩ | ⟨_, e1⟩
     · rw [hn] at e1; cases e1
       refine .inl ⟨nb, hid, ?_⟩
       obtain ⟨conc, t, fr, a1, a2, a3, a4⟩ := e2.blk
       exact ⟨conc, t, fr, a1, a2, a3, fun k hk => (a4 k hk).extV hx⟩
     · rw [hn] at e1; cases e1
   · by_cases h2 : i = σ.length
     · subst h2
       rw [List.getElem?_append_right (by simp)]
       simp only [List.length_set, Nat.sub_self, List.getElem?_cons_zero]
       exact hlast
     · have ho := hS.obj i
       by_cases h3 : i < σ.length
       · rw [List.getElem?_append_left (by simpa using h3), List.getElem?_set_ne (fun e => h1 e.symm)]
         rw [List.getElem?_append_left h3] at ho
         exact ho.extV hx (hother i h1 h2) fun _ _ _ => rfl
       · rw [List.getElem?_eq_none (by simp; omega)] at ho ⊢
         exact (hother i h1 h2).trans ho
 · rcases hold _ _ _ h1 with ⟨e1, e2⟩ | ⟨e1, e2, e3⟩
   · subst e1; subst e2
     rcases hold _ _ _ h2 with ⟨f1, f2⟩ | ⟨f1, f2, f3⟩
     · exact f1.symm
     · exact absurd (hS.inj _ _ _ _ _ f3 hn) f2
   · rcases hold _ _ _ h2 with ⟨f1, f2⟩ | ⟨f1, f2, f3⟩
     · subst f2; exact absurd (hS.inj _ _ _ _ _ e3 hn) e2
     · exact hS.inj _ _ _ _ _ e3 f3
 · rcases hold _ _ _ h with ⟨e1, e2⟩ | ⟨e1, e2, e3⟩
   · subst e2; exact hS.blk _ _ _ hn
   · exact hS.blk _ _ _ e3
 · have hok : E'.ok id (ver + 1) := ⟨by show id < E.n; omega, fun v o h => by rw [hid] at h; cases h; exact Nat.le_refl _⟩
   cases h with
   | osn _ _ _ _ _ a hk h =>
    have := h _ hn; cases this
   | os _ _ _ _ _ _ _ a cap hk hc ht hB h =>
    refine .os _ _ _ _ _ _ _ a cap hok hc ht hB fun ob hob => ?_
    rw [hid] at hob; cases hob
    exact h _ hn
theorem Ext.swap {E0 E : Env} (hx : Ext E0 E) {σ0 : Store} (h0 : SR E0 σ0) {id ver b nb : Nat} (hl : E.loc id = some (ver, some b)) (hn : E.loc σ0.length = some (0, some nb)) (hnb : E0.w.heap.size ≤ nb) (hlt : id < σ0.length) :
 Ext E0 { E with loc := fun i => if i = id then some (ver + 1, some nb) else if i = σ0.length then none else E.loc i } := by
 refine { hx with loc := fun i hi v o h => ?_, own := fun i v c h hc => ?_, n := hx.n, st := hx.st }
 · by_cases h1 : i = id
   · subst h1
     simp only [if_true, Option.some.injEq, Prod.mk.injEq] at h
     obtain ⟨v0, o0, e1, e2, e3⟩ := hx.loc _ hi _ _ hl
     exact ⟨v0, o0, e1, by omega, fun e => by omega⟩
   · simp only [if_neg h1] at h
     split at h
     · cases h
     · exact hx.loc i hi v o h
 · by_cases h1 : i = id
   · subst h1
     simp only [if_true, Option.some.injEq, Prod.mk.injEq] at h
     omega
   · simp only [if_neg h1] at h
     split at h
     · cases h
     · exact hx.own i v c h hc
theorem ACalls.dies {P : Program} {f : FuncId} {args : List AV} {σ : Store} {x : AV} {τ : Store} (h : ACalls P f args σ fun r σ' => r = x ∧ σ' = τ) : ACalls P f args σ fun r σ' => r = x ∧ σ' = τ ++ [.dead] := by
 refine ⟨h.1, fun E vs hS hl => (h.2 E vs hS hl).mono ?_⟩
 rintro e w ⟨v, r, σ', E', rfl, rfl, h3, h4, h5, rfl, rfl⟩
 obtain ⟨g1, g2⟩ := SR.die h4
 exact ⟨_, _, _, { E' with n := E'.n + 1 }, rfl, rfl, h3.ext g2, g1, h5.trans g2, rfl, rfl⟩
theorem bump {E E' : Env} {σ : Store} (hS : SR E σ) {id ver b : Nat} {cs cs' : List AV} (hcs : Store.at σ id ver = some cs) (hk : E.ok id ver) (hloc : E.loc id = some (ver, some b)) (hne : cs.length ≠ 0) (hlen : cs'.length ≠ 0) (h4 : SR E' (σ.set id (.cells ver cs'))) (h5 : Ext E E') {sz len : Nat} {v : Value}
 (h3 : VR E' (.os true sz id ver 0 len false) v) :
 ∃ E2 : Env, E2.w = E'.w ∧ SR E2 (σ.set id (.cells (ver + 1) cs')) ∧ VR E2 (.os true sz id (ver + 1) 0 len false) v ∧ Ext E E2 := by
 have hat := Store.at_set (ver' := ver) (cs' := cs') hcs
 have hl' : E'.loc id = some (ver, some b) := by
  rcases h4.at hat with ⟨b', e1, _⟩ | ⟨e1, _⟩
  · have := h5.back hk e1; rw [hloc] at this; cases this; exact e1
  · rw [e1] at hlen; exact absurd rfl hlen
 obtain ⟨hS3, hx3⟩ := h4.move (Grew.refl E'.w) hat hl' (ob := some b) (fun b hb => by cases hb; exact ⟨.inr rfl, (h4.blk _ _ _ hl').1⟩) (cs := cs') (.inl ⟨b, by simp [Env.move], by
  rcases h4.at hat with ⟨b1, h1, hblk1⟩ | ⟨_, h1⟩
  · rw [hl'] at h1; cases h1
    obtain ⟨conc, t, fr, a1, a2, a3, a4⟩ := hblk1.blk
    exact ⟨conc, t, fr, a1, a2, a3, fun k hk => (a4 k hk).ext (Ext.move h4.stb (Grew.refl _) hl' _ fun b hb => by cases hb; exact .inr rfl)⟩
  · rw [hl'] at h1; cases h1⟩)
 rw [List.set_set] at hS3
 refine ⟨E'.move E'.w id (ver + 1) (some b), rfl, hS3, ?_, h5.trans hx3⟩
 have hok : (E'.move E'.w id (ver + 1) (some b)).ok id (ver + 1) := ⟨Nat.lt_of_lt_of_le hk.1 h5.n, fun v o hvo => by simp [Env.move] at hvo; omega⟩
 cases h3 with
 | osn _ _ _ _ _ a hk h => have := h _ hl'; cases this
 | os _ _ _ _ _ _ _ a cap hk hc ht hB h =>
  refine .os _ _ _ _ _ _ _ a cap hok hc ht hB fun ob hob => ?_
  simp only [Env.move, if_true, Option.some.injEq, Prod.mk.injEq, true_and] at hob
  subst hob
  exact h _ hl'
theorem Insert_at {σ : Store} {id ver n i vid vver : Nat} {nl : Bool} {cells new : List AV} (hcs : Store.at σ id ver = some cells) (hlen : cells.length = n * 2) (hone : cells.all AV.one = true) (hi : i ≤ n) (hn : (n + 1) * 32 ≤ 140737488355328)
 (hv : Store.at σ vid vver = some new) (hnew : new.length = 2) (honev : new.all AV.one = true) (hvid : vid ≠ id) :
 ACalls Tryd.prog 88 [.os nl 2 id ver 0 n false, .int .i64 (i : Int), .os true 2 vid vver 0 1 true] σ (fun r σ' => r = .os true 2 id (ver + 1) 0 (n + 1) false ∧
  σ' = σ.set id (.cells (ver + 1) (cells.take (i * 2) ++ (new ++ cells.drop (i * 2)))) ++ [.dead]) := by
 have hlt := Store.at_lt hcs
 by_cases hin : i = n
 · subst hin
   refine ACalls.dies ?_
   refine acalls_body (rs := [.tmp 6]) tok Tryd.func88 rfl Tryd.ntmps88 rfl Tryd.call88 (by simp) ?_
   have hap : evAppend tab 40 40 (.os nl 2 id ver 0 i false) (.os true 2 vid vver 0 1 true) σ = some (.os true 2 id (ver + 1) 0 (i + 1) false, σ.set id (.cells (ver + 1) (cells ++ new))) := by
    have e1 : srcCells σ 2 (.os true 2 vid vver 0 1 true) = some (1, new) := by
     simp only [srcCells, hv]
     rw [if_pos (by omega), List.drop_zero, Nat.one_mul, ← hnew, List.take_length]
    have hg : ((i + 1) * 32 ≤ 140737488355328) = True := eq_true (by omega)
    simp only [evAppend, tab_40, tab_61, e1, lenOfAV, hg, honev, rL, and_self, if_true, evAppendTo, hcs, hlen]
   have hsl : evSlice tab 40 (.os nl 2 id ver 0 i false) (some (.int .i64 (i : Int))) none none = some (.os nl 2 id ver (i * 2) (i - i) false) := by
    simp only [evSlice, tab_40, tab_61, optI]
    simp
   refine zm [(0, .os nl 2 id ver 0 i false), (1, .int .i64 (i : Int)), (2, .os true 2 vid vver 0 1 true)] ⟨rfl, rfl, rfl, trivial⟩ ?_
   refine rg tok [0, 1, 2, 6] fun K hK => ?_
   simp only [go_sem, rL, rE, reduceCtorEq]
   refine hK _ _ ?_
   clear hK K
   refine rg tok [0, 1, 2, 6] fun K hK => ?_
   simp only [go_sem, rL, rE, reduceCtorEq, hsl]
   refine hK _ _ ?_
   clear hK K
   refine rg tok [0, 1, 2, 6, 7] fun K hK => ?_
   simp only [go_sem, rL, rE, reduceCtorEq]
   refine hK _ _ ?_
   clear hK K
   refine ze fun Z hZ => ?_
   refine rg tok [0, 1, 2, 6, 7, 16] fun K hK => ?_
   simp only [go_sem, rL, rE, reduceCtorEq]
   refine hK _ _ ?_
   clear hK K
   refine awp_if rfl (fun h => absurd h (by decide)) (fun _ => ?_)
   refine zh ?_
   refine hZ _ _ ?_
   clear hZ Z
   refine rg tok [0, 1, 2, 6, 7, 8] fun K hK => ?_
   simp only [go_sem, rL, rE, reduceCtorEq]
   refine hK _ _ ?_
   clear hK K
   refine ze fun Z hZ => ?_
   refine rg tok [0, 1, 2, 6, 7, 8, 22] fun K hK => ?_
   simp only [go_sem, rL, rE, reduceCtorEq, decide_true]
   refine hK _ _ ?_
   clear hK K
   refine zr rfl ?_
   refine rg tok [6] fun K hK => ?_
   simp only [go_sem, rL, rE, reduceCtorEq, hap]
   refine hK _ _ ?_
   clear hK K
   refine zi ?_
   simp only [retQ, resAll, resOne, resAV, exists_eq_left', go_sem]
   rw [← hlen, List.take_length, List.drop_length, List.append_nil]
 · have hi' : i < n := by omega
   refine ⟨Tryd.call88, fun E vs hS hl => ?_⟩
   obtain ⟨l1, l2⟩ := hl.arr
   rcases vs with ⟨_ | ⟨v0, _ | ⟨v1, _ | ⟨v2, _ | ⟨v3, l⟩⟩⟩⟩⟩ <;> simp only [List.size_toArray, List.length_cons, List.length_nil, rA, reduceCtorEq, rE] at l1
   · skip
     have h0 : VR E (.os nl 2 id ver 0 n false) v0 := l2 0 (by simp)
     have h1 : VR E (.int .i64 (i : Int)) v1 := l2 1 (by simp)
     have h2 : VR E (.os true 2 vid vver 0 1 true) v2 := l2 2 (by simp)
     clear l2 hl
     cases h1
     cases h0 with
     | osn => omega
     | os _ _ _ _ _ _ _ a cap hk hc ht hB hp =>
     cases h2 with
     | os _ _ _ _ _ _ _ av capv hkv hcv htv hBv hpv =>
     have := htv rfl; subst this
     obtain ⟨b, hloc, _⟩ := hS.block_of hcs (show 0 < cells.length by omega)
     obtain ⟨vb, hvloc, _⟩ := hS.block_of hv (show 0 < new.length by omega)
     obtain ⟨b', e1, e2, t, m, hsh, hts, hm⟩ := hp _ hloc
     cases e1
     have := e2.resolve_left (by omega); subst this
     obtain ⟨b', e1, e2, tv, mv, hvsh, hvts, hmv⟩ := hpv _ hvloc
     cases e1
     have := e2.resolve_left (by omega); subst this
     by_cases hroom : n + 1 ≤ cap
     · refine (ins_shift hS hcs hlen hone hi' hloc hk hsh hts (by omega) hroom hn hv hnew honev hvid hvloc hkv hvsh hvts (by omega)).mono ?_
       rintro e w ⟨E', rfl, rfl, h3, h4, h5⟩
       obtain ⟨E2, g1, g2, g3, g4⟩ := bump hS hcs hk hloc (by omega) (by simp only [List.length_append, hnew]; omega) h4 h5 h3
       obtain ⟨hS3, hx3⟩ := SR.die g2
       exact ⟨_, _, _, { E2 with n := E2.n + 1 }, rfl, g1, g3.ext hx3, hS3, g4.trans hx3, rfl, rfl⟩
     · have hcn : cap = n := by omega
       subst hcn
       refine (ins_grow hS hcs hlen hone hi' hloc hk hsh hts (by omega) hn hv hnew honev hvid hvloc hkv hvsh hvts (by omega)).mono ?_
       rintro e w ⟨E', v, rfl, rfl, h3, h4, h5, hnew'⟩
       have hl' : E'.loc id = some (ver, some b) := by
        have := (h4.at (id := id) (ver := ver) (cs := cells) (by
         have := Store.at_lt hcs
         unfold Store.at at hcs ⊢; rw [List.getElem?_append_left this]; exact hcs))
        rcases this with ⟨b', e1, _⟩ | ⟨e1, _⟩
        · have := h5.back hk e1; rw [hloc] at this; cases this; exact e1
        · rw [e1] at hlen; simp at hlen; omega
       have hn' : ∃ nb, E'.loc σ.length = some (0, some nb) ∧ E.w.heap.size ≤ nb := by
        rcases h4.at (Store.at_new σ 0 _) with ⟨nb, e1, _⟩ | ⟨e1, _⟩
        · refine ⟨nb, e1, Nat.le_of_not_lt fun hlt' => ?_⟩
          obtain ⟨i2, v2, e2⟩ := h5.own _ _ _ e1 hlt'
          exact hnew' i2 v2 nb e2 e1
        · have : (cells.take (i * 2) ++ (new ++ cells.drop (i * 2))).length = 0 := by rw [e1]; rfl
          simp only [List.length_append, hnew] at this; omega
       obtain ⟨nb, hn1, hn2⟩ := hn'
       obtain ⟨g1, g2, g3⟩ := SR.swap h4 hlt hl' hn1
       exact ⟨_, _, _, { E' with loc := fun i => if i = id then some (ver + 1, some nb) else if i = σ.length then none else E'.loc i }, rfl, rfl, g3 _ _ _ h3, g1, Ext.swap h5 hS hl' hn1 hn2 hlt, rfl, rfl⟩
end Go.Proofs.YtaddlmlpeghonaaDoor
