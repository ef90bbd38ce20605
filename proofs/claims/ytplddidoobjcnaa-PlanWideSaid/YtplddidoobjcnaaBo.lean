/- The abstract machine: what a store holds behind a step. -/
import Derived.Test.YtplddidoobjcnaaBn
set_option linter.unusedSimpArgs false
set_option linter.unusedVariables false
set_option linter.constructorNameAsVariable false
namespace Go.Proofs.Ytplddidoobjcnaa
namespace AM
open Go.RowKit

theorem Store.at_put {σ : Store} {id v v' : Nat} {cs : List AV} (h : id < σ.length) : Store.at (σ.set id (.cells v cs)) id v' = if v = v' then some cs else none := by
  unfold Store.at
  rw [List.getElem?_set_self h]

theorem Store.at_ne {σ : Store} {id id' v : Nat} {o : AObj} (h : id ≠ id') : Store.at (σ.set id o) id' v = Store.at σ id' v := by
  unfold Store.at
  rw [List.getElem?_set_ne h]

theorem Store.at_push {σ x : Store} {id v : Nat} (h : id < σ.length) : Store.at (σ ++ x) id v = Store.at σ id v := by
  unfold Store.at
  rw [List.getElem?_append_left h]

theorem Store.at_nw {σ x : Store} {o : AObj} {v : Nat} : Store.at (σ ++ o :: x) σ.length v = Store.at (o :: x) 0 v := by
  unfold Store.at
  rw [List.getElem?_append_right (Nat.le_refl _), Nat.sub_self]

theorem Store.at_new1 {σ x : Store} {o : AObj} {v k : Nat} : Store.at (σ ++ o :: x) (σ.length + (k + 1)) v = Store.at (σ ++ x) (σ.length + k) v := by
  unfold Store.at
  rw [List.getElem?_append_right (by omega), List.getElem?_append_right (by omega), show σ.length + (k + 1) - σ.length = k + 1 by omega, show σ.length + k - σ.length = k by omega, List.getElem?_cons_succ]

theorem Store.at_hd {x : Store} {v v' : Nat} {cs : List AV} : Store.at (.cells v cs :: x) 0 v' = if v = v' then some cs else none := rfl

theorem beq_tr (b : Bool) : (b == true) = b := by cases b <;> rfl
theorem beq_fa (b : Bool) : (b == false) = !b := by cases b <;> rfl

/-- A test of a slot; each way remembers some slots. -/
theorem condAB {P : Program} {n k : Nat} {Q : Exit → Fr → Store → Prop} {F : Fr} {σ : Store} (m : List Bool) {c : Operand} {x y : Code}
    (h : ∀ A B : Fr → Store → Prop, (∀ F σ, awp P n k x Q F σ → A F σ) → (∀ F σ, awp P n k y Q F σ → B F σ) → ∃ b, ev F c = .bool b ∧ (b = true → A (fr (keepM F 0 m)) σ) ∧ (b = false → B (fr (keepM F 0 m)) σ)) : awp P n k (.cond c x y) Q F σ := by
  obtain ⟨b, hb, h1, h2⟩ := h _ _ (fun _ _ h => h) (fun _ _ h => h)
  exact awp_cond hb (fun e => awp_keepM m (h1 e)) (fun e => awp_keepM m (h2 e))

/-! ### how a value is told -/

/-- That a slice has no room behind it need not be known. -/
theorem VR.loose {E : Env} {nl : Bool} {sz id ver off len : Nat} {t : Bool} {v : Value} (h : VR E (.os nl sz id ver off len t) v) : VR E (.os nl sz id ver off len false) v := by
  cases h with
  | osn _ _ _ _ _ _ hk h => exact .osn _ _ _ _ _ _ hk h
  | os _ _ _ _ _ _ _ a cap hk hc ht h => exact .os _ _ _ _ _ _ _ a cap hk hc (fun e => by cases e) h

/-- A cell told otherwise. -/
theorem SR.cell {E : Env} {σ : Store} (hS : SR E σ) {id ver : Nat} {cs : List AV} (hcs : Store.at σ id ver = some cs) {i : Nat} (hi : i < cs.length) {x : AV} (hc : ∀ v, VR E (gc cs i) v → VR E x v) :
    SR E (σ.set id (.cells ver (cs.set i x))) := by
  have hlt := Store.at_lt hcs
  refine ⟨by simpa using hS.len, fun j => ?_, hS.inj, hS.blk, hS.stb⟩
  by_cases hj : j = id
  · subst hj
    rw [List.getElem?_set_self hlt]
    have h1 := hS.obj j
    rw [Store.at_some hcs] at h1
    rcases h1 with ⟨b, e1, e2⟩ | ⟨e1, e2⟩
    · refine .inl ⟨b, e1, ?_⟩
      obtain ⟨conc, t', fr, a1, a2, a3, a4⟩ := e2.blk
      refine ⟨conc, t', fr, a1, a2, by simpa using a3, fun k hk => ?_⟩
      simp only [List.length_set] at hk
      rw [gc_set _ _ _ _ hi]
      by_cases hki : k = i
      · subst hki
        rw [if_pos rfl]
        exact hc _ (a4 k hk)
      · rw [if_neg hki]; exact a4 k hk
    · subst e1; simp at hi
  · rw [List.getElem?_set_ne (fun e => hj e.symm)]
    exact hS.obj j

end AM
end Go.Proofs.Ytplddidoobjcnaa
