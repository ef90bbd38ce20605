import Derived.Test.YtaddlmlpeghonaaDoorUBn
set_option linter.unusedSimpArgs false
set_option linter.unusedVariables false
set_option linter.constructorNameAsVariable false
namespace Go.Proofs.YtaddlmlpeghonaaDoor
namespace AM
open Go.RowKit
theorem Store.at_hd {x : Store} {v v' : Nat} {cs : List AV} : Store.at (.cells v cs :: x) 0 v' = if v = v' then some cs else none := rfl
theorem beq_tr (b : Bool) : (b == true) = b := by cases b <;> rfl
theorem beq_fa (b : Bool) : (b == false) = !b := by cases b <;> rfl
theorem VR.loose {E : Env} {nl : Bool} {sz id ver off len : Nat} {t : Bool} {v : Value} (h : VR E (.os nl sz id ver off len t) v) : VR E (.os nl sz id ver off len false) v := by
 cases h with
 | osn _ _ _ _ _ _ hk h => exact .osn _ _ _ _ _ _ hk h
 | os _ _ _ _ _ _ _ a cap hk hc ht hB h => exact .os _ _ _ _ _ _ _ a cap hk hc (fun e => by cases e) hB h
theorem SR.cell {E : Env} {σ : Store} (hS : SR E σ) {id ver : Nat} {cs : List AV} (hcs : Store.at σ id ver = some cs) {i : Nat} (hi : i < cs.length) {x : AV} (hc : ∀ v, VR E (gc cs i) v → VR E x v) :
 SR E (σ.set id (.cells ver (cs.set i x))) := by
 have hlt := Store.at_lt hcs
 refine ⟨by simpa using hS.len, fun j => ?_, hS.inj, hS.blk, hS.stb, hS.glb⟩
 by_cases hj : j = id
 · subst hj
   rw [List.getElem?_set_self hlt]
   have h1 := hS.obj j
   rw [Store.at_some hcs] at h1
   rcases h1 with ⟨b, e1, e2⟩ | ⟨e1, e2⟩
   · refine .inl ⟨b, e1, ?_⟩
     obtain ⟨conc, t', fr, a1, a2, a3, a4⟩ := e2.blk
     refine ⟨conc, t', fr, a1, a2, by simpa using a3, fun k hk => ?_⟩
     simp only [List.length_set] at hk
     rw [gc_set _ _ _ _ hi]
     by_cases hki : k = i
     · subst hki
       rw [if_pos rfl]
       exact hc _ (a4 k hk)
     · rw [if_neg hki]; exact a4 k hk
   · subst e1; simp at hi
 · rw [List.getElem?_set_ne (fun e => hj e.symm)]
   exact hS.obj j
end AM
end Go.Proofs.YtaddlmlpeghonaaDoor
