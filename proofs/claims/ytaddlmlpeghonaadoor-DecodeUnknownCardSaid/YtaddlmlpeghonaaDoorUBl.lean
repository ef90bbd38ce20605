import Derived.Test.YtaddlmlpeghonaaDoorUBq
set_option linter.unusedSimpArgs false
set_option linter.unusedVariables false
set_option linter.constructorNameAsVariable false
namespace Go.Proofs.YtaddlmlpeghonaaDoor
namespace AM
open Go.RowKit
section
variable {P : Program} {n k : Nat} {Q : Exit → Fr → Store → Prop} {F : Fr} {σ : Store}
theorem zd (K : Fr → Store → Prop) (Q : Exit → Fr → Store → Prop) (F : Fr) (σ : Store) : thenQ K Q .normal F σ = K F σ := rfl
theorem thenQ_ret (K : Fr → Store → Prop) (Q : Exit → Fr → Store → Prop) (F : Fr) (σ : Store) : thenQ K Q .ret F σ = Q .ret F σ := rfl
theorem thenQ_exit (K : Fr → Store → Prop) (Q : Exit → Fr → Store → Prop) (i : Nat) (F : Fr) (σ : Store) : thenQ K Q (.exit i) F σ = Q (.exit i) F σ := rfl
theorem thenQ_goto (K : Fr → Store → Prop) (Q : Exit → Fr → Store → Prop) (i : Nat) (F : Fr) (σ : Store) : thenQ K Q (.goto i) F σ = Q (.goto i) F σ := rfl
theorem blockQ_normal (i : Nat) (Q : Exit → Fr → Store → Prop) (F : Fr) (σ : Store) : blockQ i Q .normal F σ = Q .normal F σ := rfl
theorem blockQ_ret (i : Nat) (Q : Exit → Fr → Store → Prop) (F : Fr) (σ : Store) : blockQ i Q .ret F σ = Q .ret F σ := rfl
theorem blockQ_exit (i j : Nat) (Q : Exit → Fr → Store → Prop) (F : Fr) (σ : Store) : blockQ i Q (.exit j) F σ = if j = i then Q .normal F σ else Q (.exit j) F σ := rfl
theorem ze {x y : Code} (h : ∀ K : Fr → Store → Prop, (∀ F σ, awp P n k y Q F σ → K F σ) → awp P n k x (thenQ K Q) F σ) : awp P n k (.seq x y) Q F σ := awp_seq (h _ fun _ _ h => h)
def Run (x : Option (List Oper × Fr × Store)) (K : List Oper → Fr → Store → Prop) : Prop :=
 match x with
 | some (l, F, σ) => K l F σ
 | none => False
theorem Run_some (l : List Oper) (F : Fr) (σ : Store) (K : List Oper → Fr → Store → Prop) : Run (some (l, F, σ)) K = K l F σ := rfl
theorem regEnd {T : TT} (hT : TOK P T) {id : Nat} {l : List Oper} (h : Run (evOps T n l.toArray l F σ) fun l' F' σ' => l' = [] ∧ Q .normal F' σ') : awp P n k (.region id l.toArray false) Q F σ := by
 refine awp_region ?_
 unfold Run at h
 split at h
 · rename_i l' F' σ' he
   obtain ⟨rfl, h2⟩ := h
   exact opsWp_run hT he (zb h2)
 · exact h.elim
theorem opsWp_at {ops : Array Oper} {l : List Oper} {b : Bool} (t : Tmp) (hb : F t = .bool b) (h1 : b = true → opsWp P n k ops l Q (upd F t (.bool true)) σ) (h0 : b = false → opsWp P n k ops l Q (upd F t (.bool false)) σ) :
 opsWp P n k ops l Q F σ := by
 have e : F = upd F t (.bool b) := by
  funext x; unfold upd; split
  · rename_i h; rw [h, hb]
  · rfl
 rw [e]
 cases b with
 | true => exact h1 rfl
 | false => exact h0 rfl
end
theorem ACalls.ghost {P : Program} {f : FuncId} {args : List AV} {σ : Store} {R R' : AV → Store → Prop} (h : ACalls P f args σ R)
 (hg : ∀ r σ', R r σ' → ∀ E v, SR E σ' → VR E r v → ∃ E' r' σ'', E'.w = E.w ∧ SR E' σ'' ∧ Ext E E' ∧ VR E' r' v ∧ R' r' σ'') : ACalls P f args σ R' := by
 refine ⟨h.1, fun E vs hS hl => (h.2 E vs hS hl).mono ?_⟩
 rintro e w ⟨v, r, σ', E', h1, rfl, h3, h4, h5, h6⟩
 obtain ⟨E2, r', σ2, e1, e2, e3, e4, e5⟩ := hg r σ' h6 E' v h4 h3
 exact ⟨v, r', σ2, E2, h1, e1, e4, e2, h5.trans e3, e5⟩
theorem SR.virt {E : Env} {σ : Store} (hS : SR E σ) : SR (E.new E.w none) (σ ++ [.cells 0 []]) ∧ Ext E (E.new E.w none) :=
 hS.new (Grew.refl E.w) (fun b hb => by cases hb) (.inr ⟨rfl, by simp [Env.new]⟩)
theorem VR.virt {E : Env} {σ : Store} (hS : SR E σ) {nl : Bool} {v : Value} (h : VR E (.ds nl [] 0 true) v) (sz : Nat) (t' : Bool) : VR (E.new E.w none) (.os true sz σ.length 0 0 0 t') v := by
 have hv : ∃ a, v = .slice a 0 0 := by
  cases h with
  | dsn => exact ⟨none, rfl⟩
  | ds _ _ _ _ a cap vs ha hr hv hc ht hB => have := ht rfl; subst this; exact ⟨some a, rfl⟩
 obtain ⟨a, rfl⟩ := hv
 exact .osn _ _ _ _ _ _ (Env.ok_new hS _ _) fun ob hob => by rw [Env.loc_new hS] at hob; cases hob; rfl
theorem awp_virt {P : Program} {n k : Nat} {Q : Exit → Fr → Store → Prop} {F : Fr} {σ : Store} {c : Code} (t sz : Nat) {nl : Bool} (ht : F t = .ds nl [] 0 true) (h : awp P n k c Q (upd F t (.os true sz σ.length 0 0 0 false)) (σ ++ [.cells 0 []])) :
 awp P n k c Q F σ := by
 intro E a hk hS hF
 obtain ⟨hS', hx⟩ := hS.virt
 have hF' : FR (E.new E.w none) n (upd F t (.os true sz σ.length 0 0 0 false)) a := by
  refine ⟨hF.size, hF.defers, fun t' => ?_⟩
  by_cases e : t' = t
  · subst e
    simp only [upd, if_true]
    have := hF.tmps t'
    rw [ht] at this
    exact this.virt hS sz false
  · simp only [upd, e, if_false]; exact (hF.tmps t').ext hx
 exact wp_mono (h (E.new E.w none) a (Nat.le_trans hk hx.n) hS' hF') fun e a w hp => post_trans (hx.mono hk) hp
theorem SR.virtIn {E : Env} {σ : Store} (hS : SR E σ) {id ver : Nat} {cs : List AV} (hcs : Store.at σ id ver = some cs) {i : Nat} (hi : i < cs.length) {nl : Bool} (hc : gc cs i = .ds nl [] 0 true) (sz : Nat) :
 SR (E.new E.w none) ((σ.set id (.cells ver (cs.set i (.os true sz σ.length 0 0 0 false)))) ++ [.cells 0 []]) ∧ Ext E (E.new E.w none) := by
 obtain ⟨hS', hx⟩ := hS.virt
 have hlt := Store.at_lt hcs
 refine ⟨⟨by simpa using hS'.len, fun j => ?_, hS'.inj, hS'.blk, hS'.stb, hS'.glb⟩, hx⟩
 by_cases hj : j = id
 · subst hj
   rw [List.getElem?_append_left (by simpa using hlt), List.getElem?_set_self hlt]
   have h1 := hS'.obj j
   rw [List.getElem?_append_left hlt, Store.at_some hcs] at h1
   rcases h1 with ⟨b, e1, e2⟩ | ⟨e1, e2⟩
   · refine .inl ⟨b, e1, ?_⟩
     obtain ⟨conc, t', fr, a1, a2, a3, a4⟩ := e2.blk
     refine ⟨conc, t', fr, a1, a2, by simpa using a3, fun k hk => ?_⟩
     simp only [List.length_set] at hk
     rw [gc_set _ _ _ _ hi]
     by_cases hki : k = i
     · subst hki
       rw [if_pos rfl]
       have h2 := a4 k hk
       rw [hc] at h2
       exact (show VR (E.new E.w none) (.os true sz σ.length 0 0 0 false) _ from by
        generalize conc.getD k undef = v at h2
        have hv : ∃ a, v = .slice a 0 0 := by
         cases h2 with
         | dsn => exact ⟨none, rfl⟩
         | ds _ _ _ _ a cap vs ha hr hv hc ht hB => have := ht rfl; subst this; exact ⟨some a, rfl⟩
        obtain ⟨a, rfl⟩ := hv
        exact .osn _ _ _ _ _ _ (Env.ok_new hS _ _) fun ob hob => by rw [Env.loc_new hS] at hob; cases hob; rfl)
     · rw [if_neg hki]; exact a4 k hk
   · subst e1; simp at hi
 · have h1 := hS'.obj j
   by_cases hl : j < σ.length
   · rw [List.getElem?_append_left (by simpa using hl), List.getElem?_set_ne (fun e => hj e.symm)]
     rw [List.getElem?_append_left hl] at h1
     exact h1
   · rw [List.getElem?_append_right (by simpa using Nat.le_of_not_lt hl)]
     rw [List.getElem?_append_right (Nat.le_of_not_lt hl)] at h1
     simpa using h1
theorem awp_virtIn {P : Program} {n k : Nat} {Q : Exit → Fr → Store → Prop} {F : Fr} {σ : Store} {c : Code} {id ver : Nat} {cs : List AV} (hcs : Store.at σ id ver = some cs) {i : Nat} (hi : i < cs.length) {nl : Bool}
 (hc : gc cs i = .ds nl [] 0 true) (sz : Nat) (h : awp P n k c Q F ((σ.set id (.cells ver (cs.set i (.os true sz σ.length 0 0 0 false)))) ++ [.cells 0 []])) : awp P n k c Q F σ := by
 intro E a hk hS hF
 obtain ⟨hS', hx⟩ := hS.virtIn hcs hi hc sz
 exact wp_mono (h (E.new E.w none) a (Nat.le_trans hk hx.n) hS' (hF.ext hx)) fun e a w hp => post_trans (hx.mono hk) hp
end AM
end Go.Proofs.YtaddlmlpeghonaaDoor
