/- The abstract machine: a function's body and its results; what a call may leave behind and let go. -/
import Derived.Test.YtplddidoobjcnaaAj
set_option linter.unusedSimpArgs false
set_option linter.unusedVariables false
set_option linter.constructorNameAsVariable false
namespace Go.Proofs.Ytplddidoobjcnaa
namespace AM
open Go.RowKit

/-! ### a function's body -/

def resOne (T : TT) (F : Fr) (σ : Store) : ResultVar → Option AV
  | .tmp t => some (F t)
  | .cell a t => if sized T t then evLoad T t (F a) σ else none

def resAll (T : TT) (F : Fr) (σ : Store) : List ResultVar → Option (List AV)
  | [] => some []
  | r :: l => match resOne T F σ r, resAll T F σ l with
    | some a, some b => some (a :: b)
    | _, _ => none

def resAV : List AV → AV
  | [a] => a
  | l => .tup l

/-- What a body has to come to. -/
def retQ (T : TT) (rs : List ResultVar) (R : AV → Store → Prop) : Exit → Fr → Store → Prop
  | .normal, F, σ | .ret, F, σ => ∃ l, resAll T F σ rs = some l ∧ R (resAV l) σ
  | _, _, _ => False

theorem run_resAll {P : Program} {T : TT} (hT : TOK P T) {E : Env} {n : Nat} {F : Fr} {a : Act} {σ : Store} (hS : SR E σ) (hF : FR E n F a) : ∀ (rs : List ResultVar) (l : List AV), resAll T F σ rs = some l →
    ∃ vs : List Value, (rs.mapM fun r => (match r with
      | .tmp t => pure (a.tmps.getD t undef)
      | .cell p t => do loadVar t (← asAddr (a.tmps.getD p undef)) : Sem Value)).run P E.w = .ok vs E.w ∧ vs.length = l.length ∧ ∀ i, i < l.length → VR E (gc l i) (vs.getD i undef) := by
  intro rs
  induction rs with
  | nil => intro l h; cases h; exact ⟨[], by simp, rfl, fun i hi => absurd hi (by simp)⟩
  | cons r rs ih =>
    intro l h
    simp only [resAll] at h
    split at h
    · rename_i x y h1 h2
      cases h
      obtain ⟨vs, h3, h4, h5⟩ := ih y h2
      have one : ∃ v, (match r with
          | .tmp t => pure (a.tmps.getD t undef)
          | .cell p t => do loadVar t (← asAddr (a.tmps.getD p undef)) : Sem Value).run P E.w = .ok v E.w ∧ VR E x v := by
        cases r with
        | tmp t => cases h1; exact ⟨_, rfl, hF.tmps t⟩
        | cell p t =>
          simp only [resOne] at h1
          split at h1
          · rename_i hs
            have hvr := hF.tmps p
            obtain ⟨cv, e1, e2⟩ := run_evLoad_same hT hS hvr h1 fun i hi _ => sized_some hs i hi
            refine ⟨cv, ?_, e2⟩
            show (do loadVar t (← asAddr (a.tmps.getD p undef)) : Sem Value).run P E.w = _
            generalize a.tmps.getD p undef = v at hvr e1 ⊢
            have : ∃ ad, v = .pointer (some ad) := by
              unfold evLoad at h1
              split at h1
              · rename_i heq; rw [heq] at hvr; cases hvr; exact ⟨_, rfl⟩
              · rename_i heq; rw [heq] at hvr; cases hvr; exact ⟨_, rfl⟩
              · cases h1
            obtain ⟨ad, rfl⟩ := this
            simpa [Instr.loadAt, Instr.sureAddr, asAddr] using e1
          · cases h1
      obtain ⟨v, h6, h7⟩ := one
      refine ⟨v :: vs, ?_, by simp [h4], fun i hi => ?_⟩
      · rw [List.mapM_cons]
        simp only [Sem.run_bind]
        rw [h6]
        simp only [Result.andThen_ok]
        rw [h3]
        simp
      · cases i with
        | zero => simpa [gc] using h7
        | succ i => have := h5 i (by simpa using hi); simpa [gc] using this
    · cases h

theorem run_results {P : Program} {T : TT} (hT : TOK P T) {E : Env} {n : Nat} {F : Fr} {a : Act} {σ : Store} (hS : SR E σ) (hF : FR E n F a) {fn : Func} {rs : List ResultVar} (hr : fn.results.toList = rs) {l : List AV} (h : resAll T F σ rs = some l) :
    ∃ v, (results fn a.tmps).run P E.w = .ok v E.w ∧ VR E (resAV l) v := by
  obtain ⟨vs, h1, h2, h3⟩ := run_resAll hT hS hF rs l h
  have hm : (fn.results.mapM fun (r : ResultVar) => (match r with
    | .tmp t => pure (a.tmps.getD t undef)
    | .cell p t => do loadVar t (← asAddr (a.tmps.getD p undef)) : Sem Value)).run P E.w = .ok vs.toArray E.w := by
    rw [Array.mapM_eq_mapM_toList, hr]
    simp only [Sem.run_map]
    rw [h1]
    rfl
  have he : results fn a.tmps = (do
      let vs ← fn.results.mapM fun (r : ResultVar) => (match r with
        | .tmp t => pure (a.tmps.getD t undef)
        | .cell p t => do loadVar t (← asAddr (a.tmps.getD p undef)) : Sem Value)
      pure (if h : vs.size = 1 then vs[0] else .tuple vs)) := rfl
  rw [he, Sem.run_bind, hm]
  simp only [Result.andThen_ok, Sem.run_pure]
  refine ⟨_, rfl, ?_⟩
  rcases l with _ | ⟨x, _ | ⟨y, l⟩⟩
  · have : vs = [] := List.length_eq_zero_iff.1 h2
    subst this
    exact .tup [] #[] rfl (fun i hi => absurd hi (by simp))
  · match vs, h2, h3 with
    | [v], _, h3 =>
      have := h3 0 (by simp)
      simpa [gc, resAV] using this
  · have hne : ¬ (vs.toArray.size = 1) := by simp at h2 ⊢; omega
    rw [dif_neg hne]
    refine .tup _ _ (by simpa using h2) fun i hi => ?_
    have := h3 i hi
    simpa using this

theorem acalls_body {P : Program} {T : TT} (hT : TOK P T) {f : FuncId} {fn : Func} {c : Code} {n : Nat} {rs : List ResultVar} {args : List AV} {σ : Store} {R : AV → Store → Prop} (hf : P.funcs[f]? = some fn) (hb : fn.body = some c)
    (hn : fn.ntmps = n) (hr : fn.results.toList = rs) (hent : ∀ vs w, (callFunc f vs).run P w = .ok (.enter f vs) w) (hl : args.length ≤ n) (h : awp P n c (retQ T rs R) (fr args) σ) : ACalls P f args σ R := by
  refine ⟨hent, fun E vs hS hvs => ?_⟩
  obtain ⟨v1, v2⟩ := hvs.arr
  have hF : FR E n (fr args) { tmps := vs ++ Array.replicate (fn.ntmps - vs.size) undef, defers := [] } := by
    refine ⟨by simp; omega, rfl, fun t => ?_⟩
    by_cases ht : t < args.length
    · have : (vs ++ Array.replicate (fn.ntmps - vs.size) undef).getD t undef = vs.getD t undef := by simp [Array.getElem?_append_left (show t < vs.size by omega)]
      show VR E (fr args t) ((vs ++ Array.replicate (fn.ntmps - vs.size) undef).getD t undef)
      rw [this]; exact v2 t ht
    · unfold fr
      rw [List.getD_eq_getElem?_getD, List.getElem?_eq_none (Nat.le_of_not_lt ht)]
      exact .u _
  refine calls_of_wp hf hb (wp_mono (h E _ hS hF) ?_)
  rintro e a w ⟨E', F', σ', rfl, h2, h3, h4, h5⟩
  have fin : ∀ l, resAll T F' σ' rs = some l → R (resAV l) σ' → a.defers = [] ∧ ∃ v, (results fn a.tmps).run P E'.w = .ok v E'.w ∧ ∃ v' r σ'' E'', Ending.returned v = .returned v' ∧ E''.w = E'.w ∧ VR E'' r v' ∧ SR E'' σ'' ∧ Ext E E'' ∧ R r σ'' := by
    intro l hl hR
    obtain ⟨v, h6, h7⟩ := run_results hT h2 h3 hr hl
    exact ⟨h3.defers, v, h6, v, _, σ', E', rfl, rfl, h7, h2, h4, hR⟩
  cases e with
  | normal => obtain ⟨l, h6, h7⟩ := h5; exact fin l h6 h7
  | ret => obtain ⟨l, h6, h7⟩ := h5; exact fin l h6 h7
  | exit i => exact h5.elim
  | goto i => exact h5.elim
  | panic c => exact h5.elim
  | outgrown => exact h5.elim

/-! ### what is let go: objects that nobody writes any more are read as data -/

/-- a' tells what a tells, when the objects from k on are let go: read from now on as data. -/
inductive Rd (σ : Store) (k : Nat) : AV → AV → Prop
  | u (a : AV) : Rd σ k a .u
  | bool (b : Bool) : Rd σ k (.bool b) (.bool b)
  | int (q : IntKind) (n : Int) : Rd σ k (.int q n) (.int q n)
  | str (s : List UInt8) : Rd σ k (.str s) (.str s)
  | nilp : Rd σ k .nilp .nilp
  | nilm : Rd σ k .nilm .nilm
  | nilF : Rd σ k .nilF .nilF
  | nilI : Rd σ k .nilI .nilI
  | gp (g : Nat) : Rd σ k (.gp g) (.gp g)
  | agg (cs cs' : List AV) (hl : cs'.length = cs.length) (h : ∀ i, i < cs.length → Rd σ k (gc cs i) (gc cs' i)) : Rd σ k (.agg cs) (.agg cs')
  | tup (cs cs' : List AV) (hl : cs'.length = cs.length) (h : ∀ i, i < cs.length → Rd σ k (gc cs i) (gc cs' i)) : Rd σ k (.tup cs) (.tup cs')
  | dp (cs cs' : List AV) (off : Nat) (hl : cs'.length = cs.length) (h : ∀ i, i < cs.length → Rd σ k (gc cs i) (gc cs' i)) : Rd σ k (.dp cs off) (.dp cs' off)
  | ds (nl : Bool) (cs cs' : List AV) (len : Nat) (t : Bool) (hl : cs'.length = cs.length) (h : ∀ i, i < cs.length → Rd σ k (gc cs i) (gc cs' i)) : Rd σ k (.ds nl cs len t) (.ds nl cs' len t)
  | fn (f : Fn) (a b a' b' : List AV) (ha : a'.length = a.length) (hb : b'.length = b.length) (h : ∀ i, i < a.length → Rd σ k (gc a i) (gc a' i)) (h' : ∀ i, i < b.length → Rd σ k (gc b i) (gc b' i)) : Rd σ k (.fn f a b) (.fn f a' b')
  | ifc (t : TypeId) (a a' : AV) (h : Rd σ k a a') : Rd σ k (.ifc t a) (.ifc t a')
  | opk (id ver off : Nat) (h : id < k) : Rd σ k (.op id ver off) (.op id ver off)
  | osk (nl : Bool) (sz id ver off len : Nat) (t : Bool) (h : id < k) : Rd σ k (.os nl sz id ver off len t) (.os nl sz id ver off len t)
  | mpk (id : Nat) (h : id < k) : Rd σ k (.mp id) (.mp id)
  | itk (id : Nat) (h : id < k) : Rd σ k (.it id) (.it id)
  | os (nl : Bool) (sz id ver off len : Nat) (t : Bool) (cs cs' : List AV) (hk : k ≤ id) (hcs : Store.at σ id ver = some cs) (hl : off + cs'.length ≤ cs.length) (hn : nl = true → cs' = []) (hz : len = 0 → cs' = [])
      (h : ∀ i, i < cs'.length → Rd σ k (gc cs (off + i)) (gc cs' i)) : Rd σ k (.os nl sz id ver off len t) (.ds nl cs' len t)
  | op (id ver off : Nat) (cs cs' : List AV) (hk : k ≤ id) (hcs : Store.at σ id ver = some cs) (hl : cs'.length = cs.length) (hp : 0 < cs.length) (h : ∀ i, i < cs.length → Rd σ k (gc cs i) (gc cs' i)) : Rd σ k (.op id ver off) (.dp cs' off)

/-- The objects from k on are let go. -/
def Env.cut (E : Env) (k : Nat) : Env where
  w := E.w
  st := fun b => E.st b ∨ ∃ id v, k ≤ id ∧ E.loc id = some (v, some b)
  loc := fun id => if id < k then E.loc id else none
  n := k

theorem Row.cut {E : Env} {k b o m : Nat} {vs : Nat → Value} (h : Row E.w E.st b o m vs) : Row E.w (E.cut k).st b o m vs := by
  rcases h with h | ⟨h1, h2⟩
  · exact .inl h
  · exact .inr ⟨.inl h1, h2⟩

theorem Env.ok.cut {E : Env} {k id ver : Nat} (h : E.ok id ver) (hk : id < k) : (E.cut k).ok id ver :=
  ⟨hk, fun v ob hl => by simp only [Env.cut, hk, if_true] at hl; exact h.2 v ob hl⟩

theorem Env.cut_loc {E : Env} {k id v : Nat} {ob : Option Nat} (h : (E.cut k).loc id = some (v, ob)) : E.loc id = some (v, ob) := by
  simp only [Env.cut] at h
  split at h
  · exact h
  · cases h

theorem VR.rd {E : Env} {σ : Store} (hS : SR E σ) {k : Nat} {a a' : AV} (h : Rd σ k a a') : ∀ {v : Value}, VR E a v → VR (E.cut k) a' v := by
  induction h with
  | u a => intro v _; exact .u v
  | bool b => intro v h; cases h; exact .bool _
  | int q n => intro v h; cases h; exact .int _ _
  | str s => intro v h; cases h with | str _ b hb => exact .str _ _ hb
  | nilp => intro v h; cases h; exact .nilp
  | nilm => intro v h; cases h; exact .nilm
  | nilF => intro v h; cases h; exact .nilF
  | nilI => intro v h; cases h; exact .nilI
  | gp g => intro v h; cases h; exact .gp _
  | agg cs cs' hl _ ih => intro v h; cases h with | agg _ vs e h => exact .agg _ _ (by omega) fun i hi => ih i (by omega) (h i (by omega))
  | tup cs cs' hl _ ih => intro v h; cases h with | tup _ vs e h => exact .tup _ _ (by omega) fun i hi => ih i (by omega) (h i (by omega))
  | dp cs cs' off hl _ ih => intro v h; cases h with | dp _ _ b o vs hr h => exact .dp _ _ b o vs (by rw [hl]; exact hr.cut) fun i hi => ih i (by omega) (h i (by omega))
  | ds nl cs cs' len t hl _ ih =>
    intro v h
    cases h with
    | dsn => have : cs' = [] := List.length_eq_zero_iff.1 hl; subst this; exact .dsn _
    | ds _ _ _ ad cap vs ha hr h hc ht =>
      refine .ds _ _ _ ad cap vs ?_ (by rw [hl]; exact hr.cut) (fun i hi => ih i (by omega) (h i (by omega))) hc ht
      rcases ha with ha | ha
      · subst ha; exact .inl (List.length_eq_zero_iff.1 hl)
      · exact .inr ha
  | fn f a b a' b' ha hb _ _ i1 i2 => intro v h; cases h with | fn _ _ _ vf vc e1 e2 h1 h2 => exact .fn _ _ _ vf vc (by omega) (by omega) (fun i hi => i1 i (by omega) (h1 i (by omega))) fun i hi => i2 i (by omega) (h2 i (by omega))
  | ifc t a a' _ ih => intro v h; cases h with | ifc _ _ cv hv => exact .ifc _ _ _ (ih hv)
  | opk id ver off hk => intro v h; cases h with | op _ _ _ ad hok hp => exact .op _ _ _ ad (hok.cut hk) fun b hb => hp b (Env.cut_loc hb)
  | osk nl sz id ver off len t hk =>
    intro v h
    cases h with
    | osn _ _ _ _ _ hok hp => exact .osn _ _ _ _ _ (hok.cut hk) fun ob hb => hp ob (Env.cut_loc hb)
    | os _ _ _ _ _ _ ad cap hok hc ht hp => exact .os _ _ _ _ _ _ ad cap (hok.cut hk) hc ht fun ob hb => hp ob (Env.cut_loc hb)
  | mpk id hk => intro v h; cases h with | mp _ b hok hp => exact .mp _ b (hok.cut hk) fun ob hb => hp ob (Env.cut_loc hb)
  | itk id hk => intro v h; cases h with | it _ b hok hp => exact .it _ b (hok.cut hk) fun ob hb => hp ob (Env.cut_loc hb)
  | os nl sz id ver off len t cs cs' hk hcs hl hn hz _ ih =>
    intro v h
    cases h with
    | osn _ _ _ _ _ hok hp => rw [hn rfl]; exact .dsn _
    | os _ _ _ _ _ _ ad cap hok hc ht hp =>
      by_cases he : cs' = []
      · subst he
        exact .ds _ _ _ ad cap (fun _ => undef) (.inl rfl) Row.zero (fun i hi => absurd hi (by simp)) hc ht
      · have hpos : 0 < cs'.length := List.length_pos_iff.2 he
        obtain ⟨b, hlo, hb⟩ := hS.block_of hcs (show off < cs.length by omega)
        obtain ⟨b', e1, e2, t', m, hm, hle⟩ := hp _ hlo
        cases e1
        have hcap : cap ≠ 0 := fun e => he (hz (by omega))
        have := e2.resolve_left hcap
        subst this
        have hf : ∀ j, ∃ v, j < cs'.length → E.w.cell? ⟨b, off + j, none⟩ = some v ∧ VR E (gc cs (off + j)) v := by
          intro j
          by_cases hj : j < cs'.length
          · obtain ⟨v, hv⟩ := hb.cell (off + j) (by omega); exact ⟨v, fun _ => hv⟩
          · exact ⟨undef, fun h => absurd h hj⟩
        obtain ⟨f, hf⟩ := Classical.skolem.1 hf
        exact .ds _ _ _ _ cap f (.inr rfl) (.inr ⟨.inr ⟨id, ver, hk, hlo⟩, fun j hj => (hf j hj).1⟩) (fun j hj => ih j hj (hf j hj).2) hc ht
  | op id ver off cs cs' hk hcs hl hp0 _ ih =>
    intro v h
    cases h with | op _ _ _ ad hok hp =>
    obtain ⟨b, hlo, hb⟩ := hS.block_of hcs hp0
    have := hp b hlo
    subst this
    have hf : ∀ j, ∃ v, j < cs'.length → E.w.cell? ⟨b, 0 + j, none⟩ = some v ∧ VR E (gc cs j) v := by
      intro j
      by_cases hj : j < cs'.length
      · obtain ⟨v, hv⟩ := hb.cell j (by omega); exact ⟨v, fun _ => by rw [Nat.zero_add]; exact hv⟩
      · exact ⟨undef, fun h => absurd h hj⟩
    obtain ⟨f, hf⟩ := Classical.skolem.1 hf
    have := VR.dp (E := E.cut k) cs' off b 0 f (.inr ⟨.inr ⟨id, ver, hk, hlo⟩, fun j hj => (hf j hj).1⟩) (fun j hj => ih j (by omega) (hf j hj).2)
    simpa using this

theorem VR.restrict {E0 E : Env} {k : Nat} (hk : E0.n ≤ k) {a : AV} {v : Value} (h : VR E a v) : ∀ {v0 : Value}, VR E0 a v0 → VR (E.cut k) a v := by
  induction h with
  | u v => intro v0 _; exact .u v
  | bool b => intro v0 _; exact .bool _
  | int q n => intro v0 _; exact .int _ _
  | str l s h => intro v0 _; exact .str _ _ h
  | nilp => intro v0 _; exact .nilp
  | nilm => intro v0 _; exact .nilm
  | nilF => intro v0 _; exact .nilF
  | nilI => intro v0 _; exact .nilI
  | gp g => intro v0 _; exact .gp _
  | agg cs vs hl _ ih => intro v0 h0; cases h0 with | agg _ ws e h => exact .agg _ _ hl fun i hi => ih i hi (h i hi)
  | tup cs vs hl _ ih => intro v0 h0; cases h0 with | tup _ ws e h => exact .tup _ _ hl fun i hi => ih i hi (h i hi)
  | op id ver off a hok hp => intro v0 h0; cases h0 with | op _ _ _ a0 ok0 _ => exact .op _ _ _ _ (hok.cut (by have := ok0.1; omega)) fun b hb => hp b (Env.cut_loc hb)
  | dp cells off b o vs hr _ ih => intro v0 h0; cases h0 with | dp _ _ b0 o0 vs0 hr0 h0 => exact .dp _ _ _ _ vs hr.cut fun i hi => ih i hi (h0 i hi)
  | dsn t => intro v0 _; exact .dsn _
  | ds cells len t a cap vs ha hr _ hc ht ih => intro v0 h0; cases h0 with | ds _ _ _ a0 c0 vs0 ha0 hr0 h0 hc0 ht0 => exact .ds _ _ _ _ _ vs ha hr.cut (fun i hi => ih i hi (h0 i hi)) hc ht
  | osn sz id ver off t hok hp => intro v0 h0; cases h0 with | osn _ _ _ _ _ ok0 _ => exact .osn _ _ _ _ _ (hok.cut (by have := ok0.1; omega)) fun ob hb => hp ob (Env.cut_loc hb)
  | os sz id ver off len t a cap hok hc ht hp => intro v0 h0; cases h0 with | os _ _ _ _ _ _ a0 c0 ok0 _ _ _ => exact .os _ _ _ _ _ _ _ _ (hok.cut (by have := ok0.1; omega)) hc ht fun ob hb => hp ob (Env.cut_loc hb)
  | mp id b hok hp => intro v0 h0; cases h0 with | mp _ b0 ok0 _ => exact .mp _ _ (hok.cut (by have := ok0.1; omega)) fun ob hb => hp ob (Env.cut_loc hb)
  | fn f first cap vf vc hf hc _ _ i1 i2 => intro v0 h0; cases h0 with | fn _ _ _ vf0 vc0 e1 e2 h1 h2 => exact .fn _ _ _ _ _ hf hc (fun i hi => i1 i hi (h1 i hi)) fun i hi => i2 i hi (h2 i hi)
  | ifc t a v _ ih => intro v0 h0; cases h0 with | ifc _ _ w h => exact .ifc _ _ _ (ih h)
  | it id b hok hp => intro v0 h0; cases h0 with | it _ b0 ok0 _ => exact .it _ _ (hok.cut (by have := ok0.1; omega)) fun ob hb => hp ob (Env.cut_loc hb)

theorem Ext.cut {E0 E : Env} (hx : Ext E0 E) : Ext E0 (E.cut E0.n) where
  os := hx.os
  tape := hx.tape
  output := hx.output
  size := hx.size
  shape := hx.shape
  st := fun b hb => ⟨.inl (hx.st b hb).1, (hx.st b hb).2⟩
  n := Nat.le_refl _
  loc := fun id hid ver ob hl => hx.loc id hid ver ob (Env.cut_loc hl)

/-- What was there before a call, and is as it was on the abstract side, stands when the rest is let go. -/
theorem SR.cut {E0 E : Env} {σ0 ext : Store} (hS0 : SR E0 σ0) (hS : SR E (σ0 ++ ext)) (hx : Ext E0 E) : SR (E.cut E0.n) σ0 := by
  have hn : σ0.length = E0.n := hS0.len
  refine ⟨hn, fun id => ?_, fun id id' v v' b h1 h2 => hS.inj id id' v v' b (Env.cut_loc h1) (Env.cut_loc h2), fun id v b h1 => ?_, fun b hb => ?_⟩
  · by_cases hid : id < E0.n
    · have hlt : id < σ0.length := by omega
      have h1 := hS.obj id
      rw [List.getElem?_append_left hlt] at h1
      have h0 := hS0.obj id
      have hloc : (E.cut E0.n).loc id = E.loc id := by simp [Env.cut, hid]
      rw [List.getElem?_eq_getElem hlt] at h0 h1 ⊢
      generalize σ0[id] = o at h0 h1
      cases o with
      | cells ver cs =>
        rcases h1 with ⟨b, e1, e2⟩ | ⟨e1, e2⟩
        · refine .inl ⟨b, hloc.trans e1, ?_⟩
          obtain ⟨conc, t, fr, a1, a2, a3, a4⟩ := e2.blk
          refine ⟨conc, t, fr, a1, a2, a3, fun i hi => ?_⟩
          rcases h0 with ⟨b0, f1, f2⟩ | ⟨f1, f2⟩
          · obtain ⟨conc0, t0, fr0, g1, g2, g3, g4⟩ := f2.blk
            exact (a4 i hi).restrict (Nat.le_refl _) (g4 i hi)
          · subst f1; simp at hi
        · exact .inr ⟨e1, hloc.trans e2⟩
      | map es =>
        obtain ⟨b, ents, clock, e1, e2, e3, e4⟩ := h1
        obtain ⟨b0, ents0, clock0, f1, f2, f3, f4⟩ := h0
        exact ⟨b, ents, clock, hloc.trans e1, e2, e3, fun i h h' => ⟨(e4 i h h').1.restrict (Nat.le_refl _) (f4 i h (by omega)).1, (e4 i h h').2.restrict (Nat.le_refl _) (f4 i h (by omega)).2⟩⟩
      | iter s pos =>
        obtain ⟨b, e1, e2⟩ := h1
        exact ⟨b, hloc.trans e1, e2⟩
      | dead => exact hloc.trans h1
    · rw [List.getElem?_eq_none (by omega)]
      simp [ObjR, Env.cut, hid]
  · have h2 := Env.cut_loc h1
    have hid : id < E0.n := by
      simp only [Env.cut] at h1
      split at h1
      · assumption
      · cases h1
    refine ⟨(hS.blk id v b h2).1, fun h => ?_⟩
    rcases h with h | ⟨id', v', hk, h⟩
    · exact (hS.blk id v b h2).2 h
    · have := hS.inj id id' v v' b h2 h; omega
  · rcases hb with h | ⟨id', v', hk, h⟩
    · exact hS.stb b h
    · exact (hS.blk id' v' b h).1

/-- A call whose result is read as data, and that leaves the store as it was. -/
theorem ACalls.pure {P : Program} {f : FuncId} {args : List AV} {σ : Store} {R : AV → Prop} (h : ACalls P f args σ fun r σ' => ∃ ext r', σ' = σ ++ ext ∧ Rd σ' σ.length r r' ∧ R r') :
    ACalls P f args σ fun r σ' => σ' = σ ∧ R r := by
  refine ⟨h.1, fun E vs hS hl => (h.2 E vs hS hl).mono ?_⟩
  rintro e w ⟨v, r, σ', E', h1, h2, h3, h4, h5, ext, r', rfl, h6, h7⟩
  refine ⟨v, r', σ, E'.cut E.n, h1, h2, ?_, hS.cut h4 h5, h5.cut, rfl, h7⟩
  rw [← hS.len]
  exact h3.rd h4 h6

end AM
end Go.Proofs.Ytplddidoobjcnaa
