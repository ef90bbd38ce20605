import Derived.Test.YtaddlmlpeghonaaDoorUBj
set_option linter.unusedSimpArgs false
set_option linter.unusedVariables false
set_option linter.constructorNameAsVariable false
namespace Go.Proofs.YtaddlmlpeghonaaDoor
namespace AM
open Go.RowKit
def resOne (T : TT) (F : Fr) (σ : Store) : ResultVar → Option AV
 | .tmp t => some (F t)
 | .cell a t => if sized T t then evLoad T t (F a) σ else none
def resAll (T : TT) (F : Fr) (σ : Store) : List ResultVar → Option (List AV)
 | [] => some []
 | r :: l => match resOne T F σ r, resAll T F σ l with
  | some a, some b => some (a :: b)
  | _, _ => none
def resAV : List AV → AV
 | [a] => a
 | l => .tup l
def retQ (T : TT) (rs : List ResultVar) (R : AV → Store → Prop) : Exit → Fr → Store → Prop
 | .normal, F, σ | .ret, F, σ => ∃ l, resAll T F σ rs = some l ∧ R (resAV l) σ
 | _, _, _ => False
theorem run_resAll {P : Program} {T : TT} (hT : TOK P T) {E : Env} {n : Nat} {F : Fr} {a : Act} {σ : Store} (hS : SR E σ) (hF : FR E n F a) : ∀ (rs : List ResultVar) (l : List AV), resAll T F σ rs = some l →
 ∃ vs : List Value, (rs.mapM fun r => (match r with
  | .tmp t => pure (a.tmps.getD t undef)
  | .cell p t => do loadVar t (← asAddr (a.tmps.getD p undef)) : Sem Value)).run P E.w = .ok vs E.w ∧ vs.length = l.length ∧ ∀ i, i < l.length → VR E (gc l i) (vs.getD i undef) := by
 intro rs
 induction rs with
 | nil => intro l h; cases h; exact ⟨[], by simp, rfl, fun i hi => absurd hi (by simp)⟩
 | cons r rs ih =>
  intro l h
  simp only [resAll] at h
  split at h
  · rename_i x y h1 h2
    cases h
    obtain ⟨vs, h3, h4, h5⟩ := ih y h2
    have one : ∃ v, (match r with
     | .tmp t => pure (a.tmps.getD t undef)
     | .cell p t => do loadVar t (← asAddr (a.tmps.getD p undef)) : Sem Value).run P E.w = .ok v E.w ∧ VR E x v := by
     cases r with
     | tmp t => cases h1; exact ⟨_, rfl, hF.tmps t⟩
     | cell p t =>
      simp only [resOne] at h1
      split at h1
      · rename_i hs
        have hvr := hF.tmps p
        obtain ⟨cv, e1, e2⟩ := run_evLoad_same hT hS hvr h1 fun i hi _ => sized_some hs i hi
        refine ⟨cv, ?_, e2⟩
        show (do loadVar t (← asAddr (a.tmps.getD p undef)) : Sem Value).run P E.w = _
        generalize a.tmps.getD p undef = v at hvr e1 ⊢
        have : ∃ ad, v = .pointer (some ad) := by
         unfold evLoad at h1
         split at h1
         · rename_i heq; rw [heq] at hvr; cases hvr; exact ⟨_, rfl⟩
         · rename_i heq; rw [heq] at hvr; cases hvr; exact ⟨_, rfl⟩
         · cases h1
        obtain ⟨ad, rfl⟩ := this
        simpa [Instr.loadAt, Instr.sureAddr, asAddr] using e1
      · cases h1
    obtain ⟨v, h6, h7⟩ := one
    refine ⟨v :: vs, ?_, by simp [h4], fun i hi => ?_⟩
    · rw [List.mapM_cons]
      simp only [Sem.run_bind]
      rw [h6]
      simp only [Result.andThen_ok]
      rw [h3]
      simp
    · cases i with
      | zero => simpa [gc] using h7
      | succ i => have := h5 i (by simpa using hi); simpa [gc] using this
  · cases h
theorem run_results {P : Program} {T : TT} (hT : TOK P T) {E : Env} {n : Nat} {F : Fr} {a : Act} {σ : Store} (hS : SR E σ) (hF : FR E n F a) {fn : Func} {rs : List ResultVar} (hr : fn.results.toList = rs) {l : List AV} (h : resAll T F σ rs = some l) :
 ∃ v, (results fn a.tmps).run P E.w = .ok v E.w ∧ VR E (resAV l) v := by
 obtain ⟨vs, h1, h2, h3⟩ := run_resAll hT hS hF rs l h
 have hm : (fn.results.mapM fun (r : ResultVar) => (match r with
  | .tmp t => pure (a.tmps.getD t undef)
  | .cell p t => do loadVar t (← asAddr (a.tmps.getD p undef)) : Sem Value)).run P E.w = .ok vs.toArray E.w := by
  rw [Array.mapM_eq_mapM_toList, hr]
  simp only [Sem.run_map]
  rw [h1]
  rfl
 have he : results fn a.tmps = (do
  let vs ← fn.results.mapM fun (r : ResultVar) => (match r with
   | .tmp t => pure (a.tmps.getD t undef)
   | .cell p t => do loadVar t (← asAddr (a.tmps.getD p undef)) : Sem Value)
  pure (if h : vs.size = 1 then vs[0] else .tuple vs)) := rfl
 rw [he, Sem.run_bind, hm]
 simp only [Result.andThen_ok, Sem.run_pure]
 refine ⟨_, rfl, ?_⟩
 rcases l with _ | ⟨x, _ | ⟨y, l⟩⟩
 · have : vs = [] := List.length_eq_zero_iff.1 h2
   subst this
   exact .tup [] #[] rfl (fun i hi => absurd hi (by simp))
 · match vs, h2, h3 with
   | [v], _, h3 =>
    have := h3 0 (by simp)
    simpa [gc, resAV] using this
 · have hne : ¬ (vs.toArray.size = 1) := by simp at h2 ⊢; omega
   rw [dif_neg hne]
   refine .tup _ _ (by simpa using h2) fun i hi => ?_
   have := h3 i hi
   simpa using this
theorem acalls_body {P : Program} {T : TT} (hT : TOK P T) {f : FuncId} {fn : Func} {c : Code} {n : Nat} {rs : List ResultVar} {args : List AV} {σ : Store} {R : AV → Store → Prop} (hf : P.funcs[f]? = some fn) (hb : fn.body = some c)
 (hn : fn.ntmps = n) (hr : fn.results.toList = rs) (hent : ∀ vs w, (callFunc f vs).run P w = .ok (.enter f vs) w) (hl : args.length ≤ n) (h : awp P n σ.length c (retQ T rs R) (fr args) σ) : ACalls P f args σ R := by
 refine ⟨hent, fun E vs hS hvs => ?_⟩
 obtain ⟨v1, v2⟩ := hvs.arr
 have hF : FR E n (fr args) { tmps := vs ++ Array.replicate (fn.ntmps - vs.size) undef, defers := [] } := by
  refine ⟨by simp; omega, rfl, fun t => ?_⟩
  by_cases ht : t < args.length
  · have : (vs ++ Array.replicate (fn.ntmps - vs.size) undef).getD t undef = vs.getD t undef := by simp [Array.getElem?_append_left (show t < vs.size by omega)]
    show VR E (fr args t) ((vs ++ Array.replicate (fn.ntmps - vs.size) undef).getD t undef)
    rw [this]; exact v2 t ht
  · unfold fr
    rw [List.getD_eq_getElem?_getD, List.getElem?_eq_none (Nat.le_of_not_lt ht)]
    exact .u _
 refine calls_of_wp hf hb (wp_mono (h E _ (by rw [hS.len]; exact Nat.le_refl _) hS hF) ?_)
 rintro e a w ⟨E', F', σ', rfl, h2, h3, h4, h5⟩
 rw [hS.len] at h4
 have fin : ∀ l, resAll T F' σ' rs = some l → R (resAV l) σ' → a.defers = [] ∧ ∃ v, (results fn a.tmps).run P E'.w = .ok v E'.w ∧ ∃ v' r σ'' E'', Ending.returned v = .returned v' ∧ E''.w = E'.w ∧ VR E'' r v' ∧ SR E'' σ'' ∧ Ext E E'' ∧ R r σ'' := by
  intro l hl hR
  obtain ⟨v, h6, h7⟩ := run_results hT h2 h3 hr hl
  exact ⟨h3.defers, v, h6, v, _, σ', E', rfl, rfl, h7, h2, h4, hR⟩
 cases e with
 | normal => obtain ⟨l, h6, h7⟩ := h5; exact fin l h6 h7
 | ret => obtain ⟨l, h6, h7⟩ := h5; exact fin l h6 h7
 | exit i => exact h5.elim
 | goto i => exact h5.elim
 | panic c => exact h5.elim
 | outgrown => exact h5.elim
end AM
end Go.Proofs.YtaddlmlpeghonaaDoor
