import Derived.Test.YtaddlmlpeghonaaDoorUBx
set_option linter.unusedSimpArgs false
set_option linter.unusedVariables false
set_option linter.constructorNameAsVariable false
namespace Go.Proofs.YtaddlmlpeghonaaDoor
namespace AM
open Go.RowKit
structure KeyE {K : Type} [DecidableEq K] (T : TT) (kt : TypeId) (ek : K → AV) : Prop where
 h : ∃ ik l, ∃ kc : K → List AV, T kt = some ik ∧ cellsD T 20 kt = some l ∧ (∀ k : K, kCells ik (ek k) = some (kc k) ∧ (kc k).length = ik.size) ∧ ∀ a b : K, ceqL l (kc a) (kc b) = some (decide (a = b))
theorem KeyE.str {T : TT} {kt : TypeId} {ik : TI} (h1 : T kt = some ik) (h2 : cellsD T 20 kt = some [.string]) (h3 : ik.agg = false) (h4 : ik.size = 1) : KeyE T kt AV.str := by
 refine ⟨ik, _, fun k => [.str k], h1, h2, fun k => ⟨by simp [kCells, h3], by simp [h4]⟩, fun a b => ?_⟩
 simp [ceqL, ceq]
theorem KeyE.int {T : TT} {kt : TypeId} {ik : TI} {q : IntKind} (h1 : T kt = some ik) (h2 : cellsD T 20 kt = some [.int q]) (h3 : ik.agg = false) (h4 : ik.size = 1) : KeyE T kt (AV.int q) := by
 refine ⟨ik, _, fun k => [.int q k], h1, h2, fun k => ⟨by simp [kCells, h3], by simp [h4]⟩, fun a b => ?_⟩
 simp [ceqL, ceq]
section
variable {K V : Type}
def encM (ek : K → AV) (ev : V → AV) (M : List (K × V)) : List (AV × AV) := M.map fun p => (ek p.1, ev p.2)
def getM [DecidableEq K] : List (K × V) → K → Option V
 | [], _ => none
 | (a, v) :: l, k => if k = a then some v else getM l k
def setM [DecidableEq K] : List (K × V) → K → V → List (K × V)
 | [], k, v => [(k, v)]
 | (a, w) :: l, k, v => if k = a then (k, v) :: l else (a, w) :: setM l k v
theorem find_M [DecidableEq K] {ek : K → AV} {ev : V → AV} {ik : TI} {l : List TypeDesc} {kc : K → List AV} (h1 : ∀ k : K, kCells ik (ek k) = some (kc k) ∧ (kc k).length = ik.size) (h2 : ∀ a b : K, ceqL l (kc a) (kc b) = some (decide (a = b))) (k : K) : ∀ (M : List (K × V)) (n : Nat),
 (evFind l ik (kc k) (encM ek ev M) n = some none ∧ getM M k = none ∧ ∀ b, setM M k b = M ++ [(k, b)]) ∨
 (∃ i v, evFind l ik (kc k) (encM ek ev M) n = some (some (n + i, ev v)) ∧ getM M k = some v ∧ ∀ b, setM M k b = M.set i (k, b)) := by
 intro M
 induction M with
 | nil => intro n; exact .inl ⟨rfl, rfl, fun b => rfl⟩
 | cons e M ih =>
  intro n
  obtain ⟨a, w⟩ := e
  have e1 : evFind l ik (kc k) (encM ek ev ((a, w) :: M)) n = bif decide (k = a) then some (some (n, ev w)) else evFind l ik (kc k) (encM ek ev M) (n + 1) := by
   simp only [encM, List.map_cons, evFind, (h1 a).1, h2 k a]
  rw [e1]
  by_cases h : k = a
  · refine .inr ⟨0, w, by simp [h], by simp [getM, h], fun b => by simp [setM, h]⟩
  · simp only [h, decide_false, cond_false, getM, setM, if_false]
    rcases ih (n + 1) with ⟨a1, a2, a3⟩ | ⟨i, v, a1, a2, a3⟩
    · exact .inl ⟨a1, a2, fun b => by rw [a3]; rfl⟩
    · refine .inr ⟨i + 1, v, ?_, a2, fun b => by rw [a3]; rfl⟩
      rw [a1]; congr 3; omega
theorem lookup_M [DecidableEq K] {T : TT} {t kt et : TypeId} {ek : K → AV} {ev : V → AV} {z : V} {i ie : TI} (hk : KeyE T kt ek) (h1 : T t = some i) (h2 : i.desc = .map kt et) (h3 : T et = some ie) (h4 : ie.zero = ev z) (M : List (K × V)) (k : K) (ok : Bool) (σ : Store) (id : Nat) (hm : Store.mapAt σ id = some (encM ek ev M)) :
 evLookup T t (.mp id) (ek k) ok σ = some (packOk ok (ev ((getM M k).getD z)) (getM M k).isSome) := by
 obtain ⟨ik, l, kc, a1, a2, a3, a4⟩ := hk.h
 simp only [evLookup, h1, h2, a1, h3, a2, (a3 k).1, (a3 k).2, if_true, hm]
 rcases find_M a3 a4 k M 0 with ⟨b1, b2, _⟩ | ⟨j, v, b1, b2, _⟩
 · rw [b1, b2]; simp [h4]
 · rw [b1, b2]; simp
theorem update_M [DecidableEq K] {T : TT} {t kt et : TypeId} {ek : K → AV} {ev : V → AV} {i : TI} (hk : KeyE T kt ek) (h1 : T t = some i) (h2 : i.desc = .map kt et) (M : List (K × V)) (k : K) (v : V) (σ : Store) (id : Nat) (hm : Store.mapAt σ id = some (encM ek ev M)) :
 evMapUpdate T t (.mp id) (ek k) (ev v) σ = some (σ.set id (.map (encM ek ev (setM M k v)))) := by
 obtain ⟨ik, l, kc, a1, a2, a3, a4⟩ := hk.h
 simp only [evMapUpdate, h1, h2, a1, a2, (a3 k).1, (a3 k).2, if_true, hm]
 rcases find_M a3 a4 k M 0 with ⟨b1, _, b2⟩ | ⟨j, w, b1, _, b2⟩
 · rw [b1, b2]; simp [encM]
 · rw [b1, b2]; simp [encM, List.map_set]
class CanonV (ev : V → AV) : Prop where
 h : ∀ s x, (ev x).canon s = true
theorem encM_tell {ek : K → AV} {ev : V → AV} [h1 : CanonV ek] [h2 : CanonV ev] {σ : Store} {keep : List Nat} {ls : Bool} {f : Nat} (M : List (K × V)) :
 ((encM ek ev M).map fun e => (tell σ keep ls f e.1, tell σ keep ls f e.2)) = encM ek ev M := by
 unfold encM
 rw [List.map_map]
 exact List.map_congr_left fun p _ => by simp only [Function.comp, tell_canon _ _ _ _ _ (h1.h ls p.1), tell_canon _ _ _ _ _ (h2.h ls p.2)]
end
instance : CanonV AV.str := ⟨fun _ _ => rfl⟩
instance : CanonV AV.bool := ⟨fun _ _ => rfl⟩
instance (q : IntKind) : CanonV (AV.int q) := ⟨fun _ _ => rfl⟩
def canonO : AObj → Bool
 | .cells _ cs => canonL true cs
 | .map es => es.all fun e => e.1.canon true && e.2.canon true
 | .iter _ _ => true
 | .dead => true
theorem canonO_map {K V : Type} {ek : K → AV} {ev : V → AV} [h1 : CanonV ek] [h2 : CanonV ev] (M : List (K × V)) : canonO (.map (encM ek ev M)) = true := by
 simp only [canonO, encM, List.all_map, List.all_eq_true]
 intro p _
 simp [h1.h true p.1, h2.h true p.2]
theorem renL_E {α : Type} {enc : α → List AV} [hc : CanonE enc] {g : Nat → Nat} (x : α) : renL g (enc x) = enc x := renL_canon g (s := true) _ (hc.h true x)
theorem renL_all {α : Type} {enc : α → List AV} [hc : CanonE enc] {g : Nat → Nat} (l : List α) : renL g (l.flatMap enc) = l.flatMap enc := renL_canon g (s := true) _ (canon_all enc true l)
theorem canonO_cells {ver : Nat} {cs : List AV} : canonO (.cells ver cs) = canonL true cs := rfl
theorem renO_canon (g : Nat → Nat) : ∀ (o : AObj), canonO o = true → renO g o = o
 | .cells v cs, h => by simp only [renO, renL_canon g cs h]
 | .map es, h => by
  simp only [canonO, List.all_eq_true, Bool.and_eq_true] at h
  simp only [renO]
  congr 1
  conv => rhs; rw [← List.map_id es]
  exact List.map_congr_left fun e he => by rw [ren_canon g e.1 (h e he).1, ren_canon g e.2 (h e he).2]; rfl
 | .iter _ _, _ => rfl
 | .dead, _ => rfl
def putI : List Nat → Store → Store → Store
 | id :: ids, o :: l, σ => putI ids l (σ.set id o)
 | _, _, σ => σ
theorem putAll_canon (g : Nat → Nat) : ∀ (ids : List Nat) (l σ : Store), ids.length = l.length → l.all canonO = true → putAll g ids l σ = putI ids l σ
 | [], [], σ, _, _ => by simp [putAll, putI]
 | [], _ :: _, _, h, _ => by simp at h
 | _ :: _, [], _, h, _ => by simp at h
 | id :: ids, o :: l, σ, h, hc => by
  simp only [List.all_cons, Bool.and_eq_true] at hc
  simp only [putAll, putI, renO_canon g o hc.1]
  exact putAll_canon g ids l _ (by simpa using h) hc.2
theorem ACalls.io {P : Program} {f : FuncId} {args : List AV} {x : AV} {σs τs : Store} (h : ACalls P f args σs fun r' σ' => r' = x ∧ σ' = τs) {σ : Store} (ids : List Nat) (hn : ids.Nodup) (hlt : ∀ id ∈ ids, id < σ.length)
 (hobj : ids.map (fun id => σ[id]?) = σs.map some) (hs : σs.all canonO = true) (ht : τs.all canonO = true) (hl : ids.length = τs.length) (hx : x.canon true = true) {args' : List AV} (ha : renL (bigId ids σ.length) args = args') :
 ACalls P f args' σ fun r' σ' => r' = x ∧ σ' = putI ids τs σ := by
 refine (h.embed ids hn hlt ?_ ha).mono ?_
 · rw [hobj]
   exact List.map_congr_left fun o ho => by rw [renO_canon _ o (List.all_eq_true.1 hs o ho)]
 · rintro r σ' ⟨r0, τ, ⟨rfl, rfl⟩, rfl, rfl⟩
   exact ⟨ren_canon _ _ hx, putAll_canon _ _ _ _ hl ht⟩
theorem ACalls.own0 {P : Program} {f : FuncId} {args : List AV} {sz n : Nat} {cs : List AV} (hc : canonL true cs = true) (h : ACalls P f args [] fun r' σ' => ∃ ver, r' = .os true sz 0 ver 0 n false ∧ σ' = [.cells ver cs]) :
 ACalls P f args [] fun r' σ' => r' = .os true sz 0 0 0 n false ∧ σ' = [.cells 0 cs] := by
 refine ⟨h.1, fun E vs hS hl => (h.2 E vs hS hl).mono ?_⟩
 rintro e w ⟨v, r, σ', E1, rfl, rfl, h3, h4, h5, ver, rfl, rfl⟩
 let E2 : Env := { w := E1.w, st := E1.st, loc := fun i => if i = 0 then (E1.loc 0).map fun p => (0, p.2) else E1.loc i, n := E1.n }
 have hn : E.n = 0 := hS.len.symm
 have l1 : ∀ i v b, E2.loc i = some (v, some b) → ∃ v', E1.loc i = some (v', some b) := by
  intro i v b h
  by_cases hi : i = 0
  · subst hi
    have h' : (E1.loc 0).map (fun p => ((0 : Nat), p.2)) = some (v, some b) := h
    cases h0 : E1.loc 0 with
    | none => rw [h0] at h'; cases h'
    | some p =>
     rw [h0] at h'
     obtain ⟨q, ob⟩ := p
     simp only [Option.map_some, Option.some.injEq, Prod.mk.injEq] at h'
     exact ⟨q, by rw [h'.2]⟩
  · have h' : (if i = 0 then (E1.loc 0).map (fun p => ((0 : Nat), p.2)) else E1.loc i) = some (v, some b) := h
    rw [if_neg hi] at h'
    exact ⟨v, h'⟩
 have hok : E2.ok 0 0 := ⟨by have := h4.len; show 0 < E1.n; simp at this; omega, fun _ _ _ => Nat.zero_le _⟩
 have l0 : ∀ ob, E2.loc 0 = some (0, ob) → ∃ v', E1.loc 0 = some (v', ob) := by
  intro ob h
  have h' : (E1.loc 0).map (fun p => ((0 : Nat), p.2)) = some (0, ob) := h
  cases h0 : E1.loc 0 with
  | none => rw [h0] at h'; cases h'
  | some p =>
   rw [h0] at h'
   obtain ⟨q, ob'⟩ := p
   simp only [Option.map_some, Option.some.injEq, Prod.mk.injEq, true_and] at h'
   exact ⟨q, by rw [h']⟩
 have hobj := h4.obj 0
 have hver : ∀ v' ob, E1.loc 0 = some (v', ob) → v' = ver := by
  intro v' ob h
  rcases hobj with ⟨b, e1, _⟩ | ⟨_, e1⟩
  · rw [e1] at h; cases h; rfl
  · rw [e1] at h; cases h; rfl
 have hx : Ext E E2 := {
  os := h5.os
  tape := h5.tape
  output := h5.output
  size := h5.size
  shape := h5.shape
  st := h5.st
  n := h5.n
  loc := fun id hid => absurd hid (by omega)
  old := h5.old
  own := fun id v b hb hlt => by
   obtain ⟨v', h'⟩ := l1 id v b hb
   exact h5.own id v' b h' hlt
  stn := h5.stn }
 refine ⟨v, _, _, E2, rfl, rfl, ?_, ?_, hx, rfl, rfl⟩
 · cases h3 with
   | osn _ _ _ _ _ a hk h =>
    refine .osn _ _ _ _ _ a hok fun ob hob => ?_
    obtain ⟨v', h'⟩ := l0 ob hob
    have := hver _ _ h'; subst this
    exact h ob h'
   | os _ _ _ _ _ _ _ a cap hk hc ht hB h =>
    refine .os _ _ _ _ _ _ _ a cap hok hc ht hB fun ob hob => ?_
    obtain ⟨v', h'⟩ := l0 ob hob
    have := hver _ _ h'; subst this
    exact h ob h'
 · refine ⟨h4.len, fun i => ?_, fun i i' v v' b h1 h2 => ?_, fun i v b h1 => ?_, h4.stb, h4.glb⟩
   · match i with
     | 0 =>
      rcases hobj with ⟨b, e1, conc, t, fr, a1, a2, a3, a4⟩ | ⟨e0, e1⟩
      · refine .inl ⟨b, by show (E1.loc 0).map _ = _; rw [e1]; rfl, conc, t, fr, a1, a2, a3, fun i hi => ?_⟩
        exact VR.canonRenL (E := E1) (E' := E2) rfl (fun _ h => h) cs hc i hi (a4 i hi)
      · exact .inr ⟨e0, by show (E1.loc 0).map _ = _; rw [e1]; rfl⟩
     | i + 1 => exact h4.obj (i + 1)
   · obtain ⟨w1, g1⟩ := l1 _ _ _ h1
     obtain ⟨w2, g2⟩ := l1 _ _ _ h2
     exact h4.inj _ _ _ _ _ g1 g2
   · obtain ⟨w1, g1⟩ := l1 _ _ _ h1
     exact h4.blk _ _ _ g1
theorem ACalls.ownData {P : Program} {f : FuncId} {args : List AV} {sz n : Nat} {cs : List AV} (h : ACalls P f args [] fun r' σ' => r' = .os true sz 0 0 0 n false ∧ σ' = [.cells 0 cs]) (hl : cs.length = n * sz) (hc : canonL true cs = true) :
 ACalls P f args [] fun r' _ => r' = .ds true cs n false := by
 refine ACalls.told (h.mono ?_)
 rintro r σ' ⟨rfl, rfl⟩
 refine ⟨[], true, 12, List.nodup_nil, (fun _ h => by cases h), rfl, ?_⟩
 have h1 : cs.map (tell [.cells 0 cs] [] true 11) = cs := tell_canonL _ _ _ _ _ hc
 simp only [tell_os, idxOf_nil, Store.at_hd, if_true, List.drop_zero, ← hl, List.take_length, h1, Nat.zero_add, Nat.le_refl]
theorem ACalls.ownAt0 {P : Program} {f : FuncId} {args : List AV} {sz n : Nat} {cs : List AV} (h : ACalls P f args [] fun r' σ' => r' = .os true sz 0 0 0 n false ∧ σ' = [.cells 0 cs]) (ha : canonL true args = true) (hc : canonL true cs = true) (σ : Store) :
 ACalls P f args σ fun r' σ' => r' = .os true sz σ.length 0 0 n false ∧ σ' = σ ++ [.cells 0 cs] := by
 refine (h.embed (σ := σ) [] List.nodup_nil (fun _ h => by cases h) rfl (renL_canon _ _ ha)).mono ?_
 rintro r σ' ⟨r0, τ, ⟨rfl, rfl⟩, rfl, rfl⟩
 exact ⟨by simp [AV.ren, bigId], by simp [putAll, renO, renL_canon _ _ hc]⟩
theorem acalls_own {P : Program} {T : TT} (hT : TOK P T) {f : FuncId} {fn : Func} {c : Code} {n : Nat} {rs : List ResultVar} {args : List AV} {sz N : Nat} {cs : List AV} (hf : P.funcs[f]? = some fn) (hb : fn.body = some c)
 (hn : fn.ntmps = n) (hr : fn.results.toList = rs) (hent : ∀ vs w, (callFunc f vs).run P w = .ok (.enter f vs) w) (hl : args.length ≤ n)
 (h : awp P n 0 c (retQ T rs fun r σ' => ∃ id ver, id < σ'.length ∧ tell σ' [id] true 12 r = .os true sz 0 ver 0 N false ∧ tellS σ' [id] true 12 = [.cells ver cs]) (fr args) []) :
 ACalls P f args [] fun r' σ' => ∃ ver, r' = .os true sz 0 ver 0 N false ∧ σ' = [.cells ver cs] := by
 refine ACalls.told ((acalls_body (σ := []) hT hf hb hn hr hent hl h).mono ?_)
 rintro r σ' ⟨id, ver, h1, h2, h3⟩
 exact ⟨[id], true, 12, by simp, by simpa using h1, rfl, ver, h2, h3⟩
section
variable {P : Program} {n k : Nat} {Q : Exit → Fr → Store → Prop} {F : Fr} {σ : Store}
theorem awp_loopS1 {c : Code} (I : Nat → List (Nat × AV) → Store → Prop) (M : Nat)
 (first : awp P n k c (thenQ (fun F' σ' => ∃ m' L' τ', m' < M ∧ I m' L' τ' ∧ TellS k F' σ' L' τ') Q) F σ)
 (round : ∀ m L τ, I m L τ → awp P n k c (thenQ (fun F' σ' => ∃ m' L' τ', m' < m ∧ I m' L' τ' ∧ TellS k F' σ' L' τ') Q) (fs L) τ) : awp P n k (.loop c) Q F σ := by
 refine awp_loop (fun m F' σ' => (m = M ∧ F' = F ∧ σ' = σ) ∨ (m < M ∧ ∃ L τ, I m L τ ∧ TellS k F' σ' L τ)) M (.inl ⟨rfl, rfl, rfl⟩) ?_
 rintro m F' σ' (⟨rfl, rfl, rfl⟩ | ⟨hm, L, τ, h1, h2⟩)
 · refine awp_mono first fun e F σ hq => ?_
   cases e with
   | normal =>
    obtain ⟨m', L', τ', a, b, c⟩ := hq
    exact ⟨m', a, .inr ⟨a, L', τ', b, c⟩⟩
   | _ => exact hq
 · refine awp_tellS h2 (awp_mono (round m L τ h1) fun e F σ hq => ?_)
   cases e with
   | normal =>
    obtain ⟨m', L', τ', a, b, c⟩ := hq
    exact ⟨m', a, .inr ⟨by omega, L', τ', b, c⟩⟩
   | _ => exact hq
end
section
variable {T : TT} {t e sz : Nat} {α : Type} {enc : α → List AV}
theorem Enc.sl_tight (h : Enc T t e sz enc) (l : List α) (q q' : IntKind) :
 evSlice T t (.ds true (l.flatMap enc) l.length false) none (some (.int q (l.length : Int))) (some (.int q' (l.length : Int))) = some (.ds true (l.flatMap enc) l.length true) := by
 obtain ⟨i, hi, hd⟩ := h.sl
 obtain ⟨j, hj, hs⟩ := h.el
 simp only [evSlice, hi, hd, hj, optI, hs]
 rw [if_pos (by simp)]
 have e1 : cutOf (l.flatMap enc) sz (Int.toNat 0) (Int.toNat (l.length : Int)) = l.flatMap enc := by
  unfold cutOf
  simp only [Int.toNat_zero, Nat.zero_mul, List.drop_zero, Int.toNat_natCast, Nat.sub_zero]
  rw [← zo h.len, List.take_length]
 rw [e1]; simp
theorem app_tight (h : ∀ x, (enc x).length = sz) (l : List α) {m : Nat} (hm : m ≠ 0) (new : List AV) (σ : Store) :
 evAppendTo sz (.ds true (l.flatMap enc) l.length true) m new σ = some (.os true sz σ.length 0 0 (l.length + m) false, σ ++ [.cells 0 (l.flatMap enc ++ new)]) := by
 unfold evAppendTo
 by_cases h0 : l.length = 0
 · have : l = [] := List.eq_nil_of_length_eq_zero h0
   subst this; simp
 · simp only
   rw [if_neg h0, if_neg hm]
   have e1 : srcCells σ sz (.ds true (l.flatMap enc) l.length true) = some (l.length, l.flatMap enc) := by
    simp only [srcCells]
    rw [if_pos (by rw [zo h]; exact Nat.le_refl _), ← zo h, List.take_length]
   rw [e1]
end
section
variable {T : TT} {t e sz : Nat} {α : Type} {enc : α → List AV}
theorem Enc.idxO (h : Enc T t e sz enc) {l : List α} {i : Int} {x : α} (hx : idxL l i = some x) (nl tt : Bool) (q : IntKind) (sz' id ver : Nat) :
 evIndexAddr T t (.os nl sz' id ver 0 l.length tt) (.int q i) = some (.op id ver (i.toNat * sz)) := by
 obtain ⟨h0, h1, _⟩ := idxL_some hx
 rw [h.idxo h0 h1, Nat.zero_add]
theorem Enc.rdO (h : Enc T t e sz enc) {l : List α} {i : Int} {x : α} (hx : idxL l i = some x) : evRd (l.flatMap enc) (i.toNat * sz) sz true = some (.agg (enc x)) := by
 obtain ⟨_, _, hi, rfl⟩ := idxL_some hx
 unfold evRd
 have h1 : i.toNat * sz + sz ≤ (l.flatMap enc).length := by
  rw [zo h.len, ← Nat.succ_mul]
  exact Nat.mul_le_mul_right _ hi
 rw [if_pos rfl, if_pos h1, enc_get h.len hi]
theorem Enc.rdfO0 (h : Enc T t e sz enc) {l : List α} {i : Int} {x : α} (hx : idxL l i = some x) (n : Nat) : evRd (l.flatMap enc) (i.toNat * sz) n false = some (gc (enc x) 0) := by
 obtain ⟨_, _, hi, rfl⟩ := idxL_some hx
 exact enc_rd0 h.len hi h.pos
theorem setRun_mid : ∀ (xs a b c : List AV), b.length = xs.length → setRun (a ++ (b ++ c)) a.length xs = a ++ (xs ++ c) := by
 intro xs
 induction xs with
 | nil => intro a b c h; rw [List.length_eq_zero_iff.1 h]; rfl
 | cons x xs ih =>
  intro a b c h
  cases b with
  | nil => simp at h
  | cons y b =>
   have e1 : (a ++ (y :: b ++ c)).set a.length x = (a ++ [x]) ++ (b ++ c) := by
    rw [List.set_append_right _ _ (Nat.le_refl _), Nat.sub_self]; simp
   have e2 : a.length + 1 = (a ++ [x]).length := by simp
   simp only [setRun]
   rw [e1, e2, ih _ _ _ (by simpa using h)]
   simp
theorem setRun_enc' (h : ∀ x, (enc x).length = sz) : ∀ {l : List α} (pre : List AV) {i : Nat} (y : α), i < l.length → setRun (pre ++ l.flatMap enc) (pre.length + i * sz) (enc y) = pre ++ (l.set i y).flatMap enc := by
 intro l
 induction l with
 | nil => intro pre i y hi; simp at hi
 | cons a l ih =>
  intro pre i y hi
  cases i with
  | zero =>
   simp only [Nat.zero_mul, Nat.add_zero, List.flatMap_cons, List.set_cons_zero]
   exact setRun_mid _ _ _ _ (by rw [h, h])
  | succ i =>
   have := ih (pre ++ enc a) (i := i) y (by simpa using hi)
   rw [List.length_append, h a] at this
   rw [List.set_cons_succ, List.flatMap_cons, List.flatMap_cons, ← List.append_assoc, ← List.append_assoc, ← this]
   congr 1
   rw [Nat.succ_mul]; omega
theorem setRun_enc (h : ∀ x, (enc x).length = sz) {l : List α} {i : Nat} (y : α) (hi : i < l.length) : setRun (l.flatMap enc) (i * sz) (enc y) = (l.set i y).flatMap enc := by
 simpa using setRun_enc' h [] y hi
theorem setI_length {α : Type} {l : List α} {i : Int} {x : α} : (setI l i x).length = l.length := by simp [setI]
theorem Enc.stOc (h : Enc T t e sz enc) {l : List α} {i : Int} {x0 : α} (hx : idxL l i = some x0) : (i.toNat * sz + sz ≤ (l.flatMap enc).length) = True := by
 obtain ⟨_, _, hi, _⟩ := idxL_some hx
 refine eq_true ?_
 rw [zo h.len, ← Nat.succ_mul]
 exact Nat.mul_le_mul_right _ hi
theorem Enc.stOr (h : Enc T t e sz enc) {l : List α} {i : Int} {x0 : α} (hx : idxL l i = some x0) {y : α} {cs : List AV} (hy : enc y = cs) : setRun (l.flatMap enc) (i.toNat * sz) cs = (setI l i y).flatMap enc := by
 obtain ⟨_, _, hi, _⟩ := idxL_some hx
 subst hy
 exact setRun_enc h.len y hi
end
end AM
end Go.Proofs.YtaddlmlpeghonaaDoor
