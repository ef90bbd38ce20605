import Derived.Test.YtaddlmlpeghonaaDoorUBt
import Derived.Orders
set_option linter.unusedSimpArgs false
set_option linter.unusedVariables false
set_option linter.constructorNameAsVariable false
namespace Go.Proofs.YtaddlmlpeghonaaDoor
namespace AM
open Go.RowKit
abbrev Fr := Nat → AV
def upd (F : Fr) (d : Nat) (v : AV) : Fr := fun t => if t = d then v else F t
def updO (F : Fr) : Option Tmp → AV → Fr
 | some d, v => upd F d v
 | none, _ => F
def ev (F : Fr) : Operand → AV
 | .tmp t => F t
 | .const v => constAV v
 | .global g => .gp g
 | .func f => .fn (.func f) [] []
structure FR (E : Env) (n : Nat) (F : Fr) (a : Act) : Prop where
 size : a.tmps.size = n
 defers : a.defers = []
 tmps : ∀ t, VR E (F t) (a.tmps.getD t undef)
theorem FR.ext {E E' : Env} {n : Nat} {F : Fr} {a : Act} (hx : Ext E E') (h : FR E n F a) : FR E' n F a := ⟨h.size, h.defers, fun t => (h.tmps t).ext hx⟩
theorem FR.ev {E : Env} {n : Nat} {F : Fr} {a : Act} (h : FR E n F a) (x : Operand) : VR E (ev F x) (a.eval x) := by
 cases x with
 | tmp t => exact h.tmps t
 | const v => exact VR.constAV E v
 | global g => exact .gp g
 | func f => exact .fn _ _ _ #[] #[] rfl rfl (fun i h => absurd h (by simp)) (fun i h => absurd h (by simp))
theorem FR.put {E : Env} {n : Nat} {F : Fr} {a : Act} (h : FR E n F a) {d : Option Tmp} (hd : ∀ t, d = some t → t < n) {r : AV} {v : Value} (hv : VR E r v) : FR E n (updO F d r) (a.put d v) := by
 cases d with
 | none => exact h
 | some t =>
  refine ⟨by simp [Act.put, h.size], h.defers, fun t' => ?_⟩
  have ht := hd t rfl
  by_cases e : t' = t
  · subst e
    have : (a.put (some t') v).tmps.getD t' undef = v := by simp [Act.put, h.size, ht]
    rw [this]; simp only [updO, upd, if_true]; exact hv
  · have : (a.put (some t) v).tmps.getD t' undef = a.tmps.getD t' undef := by
     simp [Act.put, Array.getElem?_setIfInBounds_ne (show t ≠ t' from fun h => e h.symm)]
    rw [this]; simp only [updO, upd, e, if_false]; exact h.tmps t'
theorem FR.putU {E : Env} {n : Nat} {F : Fr} {a : Act} (h : FR E n F a) (d : Option Tmp) (v : Value) (hd : ∀ t, d = some t → t < n) : FR E n (updO F d .u) (a.put d v) := h.put hd (.u v)
def sized (T : TT) (t : TypeId) : Bool :=
 match T t with
 | some i => decide (0 < i.size)
 | none => false
def pureR (σ : Store) : Option AV → Option (AV × Store)
 | some r => some (r, σ)
 | none => none
def evBuiltin (T : TT) (b : Builtin) (ats : List TypeId) (args : List AV) (σ : Store) : Option (AV × Store) :=
 match b, ats, args with
 | .len, [t], [x] => pureR σ (evLen T t x σ)
 | .append, [st, xt], [s, x] => evAppend T st xt s x σ
 | .copy, [dt, _], [d, s] => evCopy T dt d s σ
 | .clear, [t], [x] => evClear T t x σ
 | .delete, [t, _], [m, k] => evDelete T t m k σ
 | .max, _, l => pureR σ (evFold evMax2 l)
 | .min, _, l => pureR σ (evFold evMin2 l)
 | _, _, _ => none
def evNil : AV → Option AV
 | .op a b c => some (.op a b c)
 | .dp a b => some (.dp a b)
 | .fn (.func f) a b => some (.fn (.func f) a b)
 | .ifc t v => some (.ifc t v)
 | .it a => some (.it a)
 | .gp g => some (.gp g)
 | _ => none
def evPick : AV → AV → AV → Option AV
 | .bool c, a, b => some (bif c then a else b)
 | _, _, _ => none
def evBinA (T : TT) (op : BinOp) (t : TypeId) (x y : AV) : Option AV :=
 match x with
 | .agg _ => match op with
  | .eql => match evEqA T t x y with
   | some b => some (.bool b)
   | none => none
  | .neq => match evEqA T t x y with
   | some b => some (.bool !b)
   | none => none
  | _ => none
 | _ => evBin T op t x y
theorem run_evBinA {P : Program} {T : TT} (hT : TOK P T) {E : Env} {op : BinOp} {t : TypeId} {x y : AV} {ox oy : Operand} {vx vy : Value} (hx : VR E x vx) (hy : VR E y vy) {r : AV}
 (h : evBinA T op t x y = some r) : ∃ v, (do eqGuard op t ox oy vx vy; Go.binOp op t vx vy).run P E.w = .ok v E.w ∧ VR E r v := by
 unfold evBinA at h
 split at h
 · split at h
   · split at h
     · rename_i b hb
       cases h
       obtain ⟨h1, h2, h3, h4⟩ := run_evEqA hT hx hy hb
       refine ⟨.bool b, ?_, .bool _⟩
       rw [Sem.run_bind, h2 .eql ox oy, Result.andThen_ok, h3]
       simp [h1]
     · cases h
   · split at h
     · rename_i b hb
       cases h
       obtain ⟨h1, h2, h3, h4⟩ := run_evEqA hT hx hy hb
       refine ⟨.bool (!b), ?_, .bool _⟩
       rw [Sem.run_bind, h2 .neq ox oy, Result.andThen_ok, h4]
       simp [h1]
     · cases h
   · cases h
 · exact run_evBin hT hx hy h
def evOp (T : TT) (o : Op) (ρ : Operand → AV) (σ : Store) : Option (AV × Store) :=
 match o with
 | .move x | .assign x => some (ρ x, σ)
 | .pick c a b => pureR σ (evPick (ρ c) (ρ a) (ρ b))
 | .alloc e => evAlloc T e σ
 | .box e x => evBox T e (ρ x) σ
 | .build t ps => pureR σ (evBuild T t (ps.toList.map fun p => (p.1, ρ p.2)))
 | .buildSlice t n ps => evBuildSlice T t n (ps.toList.map fun p => (p.1, ρ p.2)) σ
 | .load t a => if sized T t then pureR σ (evLoad T t (ρ a) σ) else none
 | .store t a x => if sized T t then match evStore T t (ρ a) (ρ x) σ with
  | some σ' => some (.u, σ')
  | none => none
  else none
 | .nilCheck x => pureR σ (evNil (ρ x))
 | .binOp op xt x y _ => pureR σ (evBinA T op xt (ρ x) (ρ y))
 | .unOp op _ x => pureR σ (evUn op (ρ x))
 | .convert s d x => evConv T s d (ρ x) σ
 | .makeInterface t x => pureR σ (evIface T t (ρ x))
 | .makeFunc f a b => some (.fn f (a.toList.map ρ) (b.toList.map ρ), σ)
 | .makeSlice t l c => evMake T t (ρ l) (ρ c) σ
 | .slice t x lo hi mx => pureR σ (evSlice T t (ρ x) (lo.map ρ) (hi.map ρ) (mx.map ρ))
 | .fieldAddr t x f => pureR σ (evFieldAddr T t (ρ x) f)
 | .field t x f => pureR σ (evField T t (ρ x) f)
 | .indexAddr t x i => pureR σ (evIndexAddr T t (ρ x) (ρ i))
 | .index t x i => pureR σ (evIndex T t (ρ x) (ρ i))
 | .typeAssert x _ t ok => pureR σ (evAssert T (ρ x) t ok)
 | .lookup t m k ok => pureR σ (evLookup T t (ρ m) (ρ k) ok σ)
 | .mapUpdate t m k v => match evMapUpdate T t (ρ m) (ρ k) (ρ v) σ with
  | some σ' => some (.u, σ')
  | none => none
 | .insert t m k v => match evMapUpdate T t (ρ m) (ρ k) (ρ v) σ with
  | some σ' => some (.u, σ')
  | none => none
 | .makeMap t r => evMakeMap T t (r.map ρ) σ
 | .range t x => evRange T t (ρ x) σ
 | .next it s => evNext (ρ it) s σ
 | .extract x i => pureR σ (evExtract (ρ x) i)
 | .call { callee := .builtin b, args := args, argTypes := ats } => evBuiltin T b ats.toList (args.toList.map ρ) σ
 | _ => none
def OpOut (P : Program) (E : Env) (s : Sem Next) (r : AV) (σ' : Store) : Prop :=
 ∃ E', SR E' σ' ∧ Ext E E' ∧ ((∃ cv, s.run P E.w = .ok (.value cv) E'.w ∧ VR E' r cv) ∨ (s.run P E.w = .ok .skip E'.w ∧ r = .u))
theorem OpOut.of {P : Program} {E : Env} {s : Sem Value} {r : AV} {σ' : Store} (h : Out P E s r σ') : OpOut P E (do pure (.value (← s))) r σ' := by
 obtain ⟨cv, E', h1, h2, h3, h4⟩ := h
 exact ⟨E', h3, h4, .inl ⟨cv, by simp [h1], h2⟩⟩
theorem pureR_some {σ σ' : Store} {x : Option AV} {r : AV} (h : pureR σ x = some (r, σ')) : x = some r ∧ σ' = σ := by
 cases x with
 | none => cases h
 | some y => cases h; exact ⟨rfl, rfl⟩
theorem sized_some {T : TT} {t : TypeId} (h : sized T t = true) (i : TI) (hi : T t = some i) : 0 < i.size := by
 simp only [sized, hi, decide_eq_true_eq] at h; exact h
theorem parts_ev {E : Env} {F : Fr} {ρ : Operand → Value} (h : ∀ x, VR E (ev F x) (ρ x)) (ps : Array (Nat × Operand)) :
 PartsR E (ps.toList.map fun p => (p.1, ev F p.2)) ((ps.map fun (i, x) => (i, ρ x)).toList) := by
 refine ⟨by simp, fun i h1 h2 => ?_⟩
 simp only [Array.toList_map, List.getElem_map]
 exact ⟨trivial, h _⟩
theorem list_ev {E : Env} {F : Fr} {ρ : Operand → Value} (h : ∀ x, VR E (ev F x) (ρ x)) (xs : Array Operand) : ListR E (xs.toList.map (ev F)) ((xs.map ρ).toList) := by
 refine ⟨by simp, fun i hi => ?_⟩
 have hi' : i < xs.toList.length := by simpa using hi
 rw [gc_map _ _ _ hi']
 have : (xs.map ρ).toList.getD i undef = ρ xs.toList[i] := by
  have h2 : i < xs.size := by simpa using hi'
  simp [h2]
 rw [this]; exact h _
theorem ListR.arr {E : Env} {l : List AV} {vs : Array Value} (h : ListR E l vs.toList) : vs.size = l.length ∧ ∀ i, i < l.length → VR E (gc l i) (vs.getD i undef) := by
 refine ⟨by have := h.1; simpa using this, fun i hi => ?_⟩
 have := h.2 i hi
 simpa using this
theorem opt_ev {E : Env} {F : Fr} {ρ : Operand → Value} (h : ∀ x, VR E (ev F x) (ρ x)) (x : Option Operand) : OptR E (x.map (ev F)) (x.map ρ) := by
 cases x with
 | none => trivial
 | some x => exact h x
theorem run_evNil {P : Program} {E : Env} {σ : Store} (hS : SR E σ) {x : AV} {vx : Value} (hx : VR E x vx) {r : AV} (h : evNil x = some r) {o : Oper} {ρ : Operand → Value} {y : Operand} (ho : o.op = .nilCheck y) (hy : ρ y = vx) :
 OpOut P E (execOp ρ o) r σ := by
 refine ⟨E, hS, Ext.refl E, .inl ⟨vx, ?_, ?_⟩⟩
 · unfold evNil at h
   split at h
   all_goals first
    | (cases h; cases hx; simp only [execOp, ho, hy]; rfl)
    | cases h
 · unfold evNil at h
   split at h
   all_goals first
    | (cases h; exact hx)
    | cases h
theorem run_evPick {P : Program} {E : Env} {σ : Store} (hS : SR E σ) {c a b : AV} {vc va vb : Value} (hc : VR E c vc) (ha : VR E a va) (hb : VR E b vb) {r : AV} (h : evPick c a b = some r) :
 OpOut P E (do pure (.value (if ← asBool vc then va else vb))) r σ := by
 unfold evPick at h
 split at h
 · rename_i q
   cases h
   cases hc
   cases q with
   | true => exact ⟨E, hS, Ext.refl E, .inl ⟨va, rfl, ha⟩⟩
   | false => exact ⟨E, hS, Ext.refl E, .inl ⟨vb, rfl, hb⟩⟩
 · cases h
theorem toList_one {α : Type} {a : Array α} {x : α} (h : a.toList = [x]) : a = #[x] := by
 apply Array.ext'; simpa using h
theorem run_evBuiltin {P : Program} {T : TT} (hT : TOK P T) {E : Env} {σ σ' : Store} (hS : SR E σ) {b : Builtin} {ats : Array TypeId} {ty : TypeId} {l : List AV} {vs : Array Value} (hl : ListR E l vs.toList) {consts : Array Bool} {r : AV}
 (h : evBuiltin T b ats.toList l σ = some (r, σ')) : OpOut P E (Go.builtin b ats ty consts vs) r σ' := by
 unfold evBuiltin at h
 split at h
 · rename_i t x hat
   obtain ⟨h1, rfl⟩ := pureR_some h
   obtain ⟨hl1, hl2⟩ := hl
   obtain ⟨v, rfl⟩ : ∃ v, vs = #[v] := by
    match hv : vs.toList, hl1 with
    | [v], _ => exact ⟨v, toList_one hv⟩
   rw [toList_one hat]
   exact OpOut.of (run_evLen hT hS (by have := hl2 0 (by simp); simpa [gc] using this) h1)
 · rename_i st xt s x hat
   obtain ⟨hl1, hl2⟩ := hl
   obtain ⟨v, w, rfl⟩ : ∃ v w, vs = #[v, w] := by
    match hv : vs.toList, hl1 with
    | [v, w], _ => exact ⟨v, w, by apply Array.ext'; simpa using hv⟩
   have : ats = #[st, xt] := by apply Array.ext'; simpa using hat
   subst this
   exact OpOut.of (run_evAppend hT hS (by have := hl2 0 (by simp); simpa [gc] using this) (by have := hl2 1 (by simp); simpa [gc] using this) h)
 · rename_i dt q d s hat
   obtain ⟨hl1, hl2⟩ := hl
   obtain ⟨v, w, rfl⟩ : ∃ v w, vs = #[v, w] := by
    match hv : vs.toList, hl1 with
    | [v, w], _ => exact ⟨v, w, by apply Array.ext'; simpa using hv⟩
   have : ats = #[dt, q] := by apply Array.ext'; simpa using hat
   subst this
   exact OpOut.of (run_evCopy hT hS (by have := hl2 0 (by simp); simpa [gc] using this) (by have := hl2 1 (by simp); simpa [gc] using this) h)
 · rename_i t x hat
   obtain ⟨hl1, hl2⟩ := hl
   obtain ⟨v, rfl⟩ : ∃ v, vs = #[v] := by
    match hv : vs.toList, hl1 with
    | [v], _ => exact ⟨v, toList_one hv⟩
   rw [toList_one hat]
   exact OpOut.of (run_evClear hT hS (by have := hl2 0 (by simp); simpa [gc] using this) h)
 · rename_i t q m k hat
   obtain ⟨hl1, hl2⟩ := hl
   obtain ⟨v, w, rfl⟩ : ∃ v w, vs = #[v, w] := by
    match hv : vs.toList, hl1 with
    | [v, w], _ => exact ⟨v, w, by apply Array.ext'; simpa using hv⟩
   have : ats = #[t, q] := by apply Array.ext'; simpa using hat
   subst this
   exact OpOut.of (run_evDelete hT hS (by have := hl2 0 (by simp); simpa [gc] using this) (by have := hl2 1 (by simp); simpa [gc] using this) h)
 · obtain ⟨h1, rfl⟩ := pureR_some h
   exact OpOut.of (run_evMax hS hl h1)
 · obtain ⟨h1, rfl⟩ := pureR_some h
   exact OpOut.of (run_evMin hS hl h1)
 · cases h
theorem run_evOp {P : Program} {T : TT} (hT : TOK P T) {E : Env} {σ σ' : Store} (hS : SR E σ) {o : Oper} {F : Fr} {ρ : Operand → Value} (hρ : ∀ x, VR E (ev F x) (ρ x)) {r : AV} (h : evOp T o.op (ev F) σ = some (r, σ')) :
 OpOut P E (execOp ρ o) r σ' := by
 obtain ⟨dst, op, ty, pos, after, guard⟩ := o
 simp only at h
 cases op <;> simp only [evOp, reduceCtorEq] at h
 case move x => cases h; exact ⟨E, hS, Ext.refl E, .inl ⟨_, rfl, hρ x⟩⟩
 case assign x => cases h; exact ⟨E, hS, Ext.refl E, .inl ⟨_, rfl, hρ x⟩⟩
 case pick c a b => obtain ⟨h1, rfl⟩ := pureR_some h; exact run_evPick hS (hρ c) (hρ a) (hρ b) h1
 case alloc e => exact OpOut.of (run_evAlloc hT hS h)
 case box e x => exact OpOut.of (run_evBox hS (hρ x) h)
 case build t ps => obtain ⟨h1, rfl⟩ := pureR_some h; exact OpOut.of (run_evBuild hT hS (parts_ev hρ ps) h1)
 case buildSlice t n ps => exact OpOut.of (run_evBuildSlice hT hS (parts_ev hρ ps) h)
 case load t a =>
  split at h
  · rename_i hs
    obtain ⟨h1, rfl⟩ := pureR_some h
    exact OpOut.of (run_evLoad hT hS (hρ a) h1 fun i hi _ => sized_some hs i hi)
  · cases h
 case store t a x =>
  split at h
  · rename_i hs
    split at h
    · rename_i σ1 h1
      cases h
      obtain ⟨E', h2, h3, h4⟩ := run_evStore hT hS (hρ a) (hρ x) h1 (sized_some hs)
      exact ⟨E', h3, h4, .inr ⟨by simp [execOp, h2], rfl⟩⟩
    · cases h
  · cases h
 case nilCheck x => obtain ⟨h1, rfl⟩ := pureR_some h; exact run_evNil hS (hρ x) h1 rfl rfl
 case binOp op xt x y yt => obtain ⟨h1, rfl⟩ := pureR_some h; exact OpOut.of (.same hS (run_evBinA hT (hρ x) (hρ y) h1).choose_spec.1 (run_evBinA hT (hρ x) (hρ y) h1).choose_spec.2)
 case unOp op xt x => obtain ⟨h1, rfl⟩ := pureR_some h; exact OpOut.of (.same hS (run_evUn (hρ x) h1).choose_spec.1 (run_evUn (hρ x) h1).choose_spec.2)
 case convert s d x => exact OpOut.of (run_evConv hT hS (hρ x) h)
 case makeInterface t x => obtain ⟨h1, rfl⟩ := pureR_some h; exact OpOut.of (run_evIface hT hS (hρ x) h1)
 case makeFunc f a b =>
  cases h
  obtain ⟨a1, a2⟩ := (list_ev hρ a).arr
  obtain ⟨b1, b2⟩ := (list_ev hρ b).arr
  exact ⟨E, hS, Ext.refl E, .inl ⟨.func f (a.map ρ) (b.map ρ), rfl, .fn _ _ _ _ _ a1 b1 a2 b2⟩⟩
 case makeSlice t l c => exact OpOut.of (run_evMake hT hS (hρ l) (hρ c) h)
 case slice t x lo hi mx => obtain ⟨h1, rfl⟩ := pureR_some h; exact OpOut.of (run_evSlice hT hS (hρ x) (opt_ev hρ lo) (opt_ev hρ hi) (opt_ev hρ mx) h1)
 case fieldAddr t x f => obtain ⟨h1, rfl⟩ := pureR_some h; exact OpOut.of (run_evFieldAddr hT hS (hρ x) h1)
 case field t x f => obtain ⟨h1, rfl⟩ := pureR_some h; exact OpOut.of (run_evField hT hS (hρ x) h1)
 case indexAddr t x i => obtain ⟨h1, rfl⟩ := pureR_some h; exact OpOut.of (run_evIndexAddr hT hS (hρ x) (hρ i) h1)
 case index t x i => obtain ⟨h1, rfl⟩ := pureR_some h; exact OpOut.of (run_evIndex hT hS (hρ x) (hρ i) h1)
 case typeAssert x xt t ok => obtain ⟨h1, rfl⟩ := pureR_some h; exact OpOut.of (run_evAssert hT hS (hρ x) h1)
 case extract x i => obtain ⟨h1, rfl⟩ := pureR_some h; exact OpOut.of (run_evExtract hS (hρ x) h1)
 case lookup t m k ok => obtain ⟨h1, rfl⟩ := pureR_some h; exact OpOut.of (run_evLookup hT hS (hρ m) (hρ k) h1)
 case mapUpdate t m k v =>
  split at h
  · rename_i σ1 h1
    cases h
    obtain ⟨E', h2, h3, h4⟩ := run_evMapUpdate hT hS (hρ m) (hρ k) (hρ v) h1
    exact ⟨E', h3, h4, .inr ⟨by simp [execOp, h2], rfl⟩⟩
  · cases h
 case insert t m k v =>
  split at h
  · rename_i σ1 h1
    cases h
    obtain ⟨E', h2, h3, h4⟩ := run_evMapUpdate hT hS (hρ m) (hρ k) (hρ v) h1
    exact ⟨E', h3, h4, .inr ⟨by simp [execOp, h2], rfl⟩⟩
  · cases h
 case makeMap t r => exact OpOut.of (run_evMakeMap hT hS (opt_ev hρ r) h)
 case range t x => exact OpOut.of (run_evRange hT hS (hρ x) h)
 case next it s => exact OpOut.of (run_evNext hS (hρ it) h)
 case call c =>
  obtain ⟨callee, args, ats⟩ := c
  cases callee <;> simp only [reduceCtorEq] at h
  have := run_evBuiltin (ty := ty) (consts := args.map fun | .const _ => true | _ => false) hT hS (list_ev hρ args) h
  exact this
end AM
end Go.Proofs.YtaddlmlpeghonaaDoor
