import Derived.Test.YtaddlmlpeghonaaDoorUBf
set_option linter.unusedSimpArgs false
set_option linter.unusedVariables false
set_option linter.constructorNameAsVariable false
namespace Go.Proofs.YtaddlmlpeghonaaDoor
namespace AM
open Go.RowKit
def Env.move (E : Env) (w : World) (id ver : Nat) (ob : Option Nat) : Env := { E with w := w, loc := fun i => if i = id then some (ver, ob) else E.loc i }
theorem Ext.move {E : Env} {w' : World} (hst : ∀ b, E.st b → b < E.w.heap.size) (h : Grew E.w w') {id ver : Nat} {ob0 : Option Nat} (hl : E.loc id = some (ver, ob0)) (ob : Option Nat) (hob : ∀ b, ob = some b → E.w.heap.size ≤ b ∨ ob0 = some b) : Ext E (E.move w' id (ver + 1) ob) where
 os := h.os
 tape := h.tape
 output := h.output
 size := h.size
 shape := fun _ _ hm => h.shape hm
 st := fun b hb => ⟨hb, h.old b (hst b hb)⟩
 n := Nat.le_refl _
 loc := fun id' _ v o hl' => by
  by_cases hid : id' = id
  · subst hid
    simp only [Env.move, if_true, Option.some.injEq, Prod.mk.injEq] at hl'
    exact ⟨ver, ob0, hl, by omega, fun e => by omega⟩
  · simp only [Env.move, hid, if_false] at hl'
    exact ⟨v, o, hl', Nat.le_refl _, fun _ => rfl⟩
 old := fun b hb _ => h.old b hb
 own := fun id' v b hl' hb => by
  by_cases hid : id' = id
  · subst hid
    simp only [Env.move, if_true, Option.some.injEq, Prod.mk.injEq] at hl'
    rcases hob b hl'.2 with h1 | h1
    · omega
    · subst h1; exact ⟨id', ver, hl⟩
  · simp only [Env.move, hid, if_false] at hl'
    exact ⟨id', v, hl'⟩
 stn := fun _ h => .inl h
theorem SR.move {E : Env} {σ : Store} (hS : SR E σ) {w' : World} (h : Grew E.w w') {id ver : Nat} {cs0 cs : List AV} (hcs : Store.at σ id ver = some cs0) {ob0 : Option Nat} (hl : E.loc id = some (ver, ob0)) {ob : Option Nat}
 (hob : ∀ b, ob = some b → (E.w.heap.size ≤ b ∨ ob0 = some b) ∧ b < w'.heap.size) (ho : ObjR (E.move w' id (ver + 1) ob) id (some (.cells (ver + 1) cs))) :
 SR (E.move w' id (ver + 1) ob) (σ.set id (.cells (ver + 1) cs)) ∧ Ext E (E.move w' id (ver + 1) ob) := by
 have hx := Ext.move (ob0 := ob0) hS.stb h hl ob fun b hb => (hob b hb).1
 have hne : ∀ i, i ≠ id → (E.move w' id (ver + 1) ob).loc i = E.loc i := fun i hi => by simp [Env.move, hi]
 have hself : (E.move w' id (ver + 1) ob).loc id = some (ver + 1, ob) := by simp [Env.move]
 have hlt := Store.at_lt hcs
 refine ⟨⟨by simpa [Env.move] using hS.len, fun i => ?_, fun i i' v v' b h1 h2 => ?_, fun i v b h1 => ?_, fun b hb => Nat.lt_of_lt_of_le (hS.stb b hb) h.size, hS.glb.mono hx.st⟩, hx⟩
 · by_cases hi : i = id
   · subst hi; rw [List.getElem?_set_self hlt]; exact ho
   · rw [List.getElem?_set_ne (fun e => hi e.symm)]
     exact (hS.obj i).ext hx (hne i hi) fun v b hv => h.old b (hS.blk i v b hv).1
 · have key : ∀ i v, i ≠ id → (E.move w' id (ver + 1) ob).loc i = some (v, some b) → ob ≠ some b := fun i v hi hv he => by
    rw [hne i hi] at hv
    rcases (hob b he).1 with h3 | h3
    · have := (hS.blk i v b hv).1; omega
    · exact hi (hS.inj i id v ver b hv (h3 ▸ hl))
   by_cases e1 : i = id
   · by_cases e2 : i' = id
     · rw [e1, e2]
     · subst e1
       rw [hself] at h1
       simp only [Option.some.injEq, Prod.mk.injEq] at h1
       exact absurd h1.2 (key i' v' e2 h2)
   · by_cases e2 : i' = id
     · subst e2
       rw [hself] at h2
       simp only [Option.some.injEq, Prod.mk.injEq] at h2
       exact absurd h2.2 (key i v e1 h1)
     · rw [hne _ e1] at h1; rw [hne _ e2] at h2; exact hS.inj i i' v v' b h1 h2
 · by_cases e1 : i = id
   · subst e1
     rw [hself] at h1
     simp only [Option.some.injEq, Prod.mk.injEq] at h1
     refine ⟨(hob b h1.2).2, fun hs => ?_⟩
     rcases (hob b h1.2).1 with h3 | h3
     · have := hS.stb b hs; omega
     · exact (hS.blk i ver b (h3 ▸ hl)).2 hs
   · rw [hne _ e1] at h1
     exact ⟨Nat.lt_of_lt_of_le (hS.blk i v b h1).1 h.size, (hS.blk i v b h1).2⟩
theorem gc_append_left (cs ds : List AV) (i : Nat) (h : i < cs.length) : gc (cs ++ ds) i = gc cs i := by
 simp [gc, List.getElem?_append_left h]
theorem gc_append_right (cs ds : List AV) (i : Nat) (h : cs.length ≤ i) : gc (cs ++ ds) i = gc ds (i - cs.length) := by
 simp [gc, List.getElem?_append_right h]
theorem gc_replicate_u (k i : Nat) : gc (List.replicate k .u) i = .u := by
 simp only [gc, List.getD_eq_getElem?_getD, List.getElem?_replicate]
 split <;> rfl
theorem SR.widen {E : Env} {σ : Store} (hS : SR E σ) {id ver b : Nat} {cs : List AV} (hcs : Store.at σ id ver = some cs) (hl : E.loc id = some (ver, some b)) {t : TypeId} {m : Nat} (hm : E.w.shape? b = some (t, m)) (k : Nat)
 (hk : cs.length + k ≤ m) : SR E (σ.set id (.cells ver (cs ++ List.replicate k .u))) := by
 refine ⟨by simpa using hS.len, fun i => ?_, hS.inj, hS.blk, hS.stb, hS.glb⟩
 by_cases hi : i = id
 · subst hi
   rw [List.getElem?_set_self (Store.at_lt hcs)]
   rcases hS.at hcs with ⟨b', h1, h2⟩ | ⟨_, h2⟩
   · rw [hl] at h1; cases h1
     obtain ⟨conc, t', fr, a1, a2, a3, a4⟩ := h2.blk
     have hsz : conc.size = m := by simp only [World.shape?, a1, Option.some.injEq, Prod.mk.injEq] at hm; exact hm.2
     refine .inl ⟨b, hl, conc, t', fr, a1, a2, by simp; omega, fun i hi => ?_⟩
     by_cases hlt : i < cs.length
     · rw [gc_append_left _ _ _ hlt]; exact a4 i hlt
     · rw [gc_append_right _ _ _ (by omega), gc_replicate_u]; exact .u _
   · rw [hl] at h2; cases h2
 · rw [List.getElem?_set_ne (fun e => hi e.symm)]; exact hS.obj i
theorem setRun_end (xs : List AV) : ∀ (cs us : List AV), us.length = xs.length → setRun (cs ++ us) cs.length xs = cs ++ xs := by
 induction xs with
 | nil => intro cs us h; have : us = [] := List.length_eq_zero_iff.1 h; subst this; simp [setRun]
 | cons x xs ih =>
  intro cs us h
  cases us with
  | nil => simp at h
  | cons u us =>
   have h1 : (cs ++ u :: us).set cs.length x = (cs ++ [x]) ++ us := by simp
   have h2 := ih (cs ++ [x]) us (by simpa using h)
   rw [setRun, h1]
   rw [List.length_append, List.length_singleton] at h2
   rw [h2]; simp
def evAppendTo (size : Nat) (s : AV) (n : Nat) (new : List AV) (σ : Store) : Option (AV × Store) :=
 match s with
 | .ds nl cells len true => if len = 0 then some (.os true size σ.length 0 0 n false, σ ++ [.cells 0 new]) else
  if n = 0 then some (.ds nl cells len true, σ) else
  match srcCells σ size (.ds nl cells len true) with
  | some (_, old) => some (.os true size σ.length 0 0 (len + n) false, σ ++ [.cells 0 (old ++ new)])
  | none => none
 | .os _ sz id ver off len false =>
  match Store.at σ id ver with
  | some cs => if off = 0 ∧ sz = size ∧ cs.length = len * size then some (.os true sz id (ver + 1) 0 (len + n) false, σ.set id (.cells (ver + 1) (cs ++ new))) else none
  | none => none
 | .os nl sz id ver off len true => if n = 0 then some (.os nl sz id ver off len true, σ) else
  match srcCells σ size (.os nl sz id ver off len true) with
  | some (_, old) => some (.os true size σ.length 0 0 (len + n) false, σ ++ [.cells 0 (old ++ new)])
  | none => none
 | _ => none
def lenOfAV : AV → Nat
 | .ds _ _ len _ => len
 | .os _ _ _ _ _ len _ => len
 | _ => 0
def evAppend (T : TT) (st xt : TypeId) (s x : AV) (σ : Store) : Option (AV × Store) :=
 match T st, T xt with
 | some i, some ix =>
  match i.desc, ix.desc with
  | .slice e, .slice _ | .slice e, .string => match T e with
   | some j => match srcCells σ j.size x with
    | some (n, new) => if (lenOfAV s + n) * j.bytes ≤ 140737488355328 ∧ 0 < j.bytes ∧ 0 < j.size ∧ new.all AV.one = true then evAppendTo j.size s n new σ else none
    | none => none
   | none => none
  | _, _ => none
 | _, _ => none
theorem told_append {E : Env} {vs ws : Array Value} {cs ds : List AV} (h : Told E vs cs) (k : Told E ws ds) : Told E (vs ++ ws) (cs ++ ds) := by
 refine ⟨by simp [h.1, k.1], fun i hi => ?_⟩
 have h1 := h.1
 have k1 := k.1
 by_cases hlt : i < cs.length
 · rw [gc_append_left _ _ _ hlt]
   have : (vs ++ ws).getD i undef = vs.getD i undef := by simp [Array.getElem?_append_left (show i < vs.size by omega)]
   rw [this]; exact h.2 i hlt
 · rw [gc_append_right _ _ _ (by omega)]
   have : (vs ++ ws).getD i undef = ws.getD (i - cs.length) undef := by simp [Array.getElem?_append_right (show vs.size ≤ i by omega), h1]
   rw [this]; exact k.2 _ (by simp at hi; omega)
theorem Told.more {E : Env} {vs ws : Array Value} {cs : List AV} (h : Told E vs cs) : cs.length ≤ (vs ++ ws).size ∧ ∀ i, i < cs.length → VR E (gc cs i) ((vs ++ ws).getD i undef) := by
 have h1 := h.1
 refine ⟨by simp; omega, fun i hi => ?_⟩
 have : (vs ++ ws).getD i undef = vs.getD i undef := by simp [Array.getElem?_append_left (show i < vs.size by omega)]
 rw [this]; exact h.2 i hi
section
variable {P : Program} {T : TT} (hT : TOK P T) {st xt e : TypeId} {i ix j : TI} (hi : T st = some i) (hix : T xt = some ix) (hd : i.desc = .slice e) (hdx : (∃ e', ix.desc = .slice e') ∨ ix.desc = .string) (hj : T e = some j)
include hT hi hix hd hdx hj
theorem run_append_lies {w : World} {base : Option Addr} {sLen sCap n : Nat} {vx : Value} {ty : TypeId} {vs : Array Value} (hn : (Builtin.lenOf vx).run P w = .ok n w) (hv : (Builtin.firstCells j.size n vx).run P w = .ok vs w) (hc : sLen + n ≤ sCap) {w' : World}
 (hs : (match base with | some a => storeCells (a.add (sLen * j.size)) vs.toList | none => pure ()).run P w = .ok () w') :
 (Builtin.append_ #[st, xt] ty #[.slice base sLen sCap, vx]).run P w = .ok (.slice base (sLen + n) sCap) w' := by
 simp only [Builtin.append_]
 rcases hdx with ⟨e', hx⟩ | hx
 all_goals simp only [List.getElem?_toArray, List.getElem?_cons_zero, List.getElem?_cons_succ, Sem.run_bind, zq _ (hT _ _ hi), Result.andThen_ok, hd, run_size _ (hT _ _ hj), zq _ (hT _ _ hix), hx, Sem.run_pure]
 all_goals simp only [Result.andThen_ok, Bool.false_eq_true, if_false, hn, if_pos hc, Sem.run_bind, Bool.not_false, if_true, hv]
 all_goals cases base with
 | none => simp only [] at hs ⊢; rw [Sem.run_pure] at hs; cases hs; rfl
 | some a => simp only [Sem.run_bind] at hs ⊢; rw [hs]; rfl
theorem run_append_grows {w : World} {base : Option Addr} {sLen sCap n : Nat} {vx : Value} {ty : TypeId} {vs os : Array Value} (hn : (Builtin.lenOf vx).run P w = .ok n w)
 (hv : (Builtin.firstCells j.size n vx).run P w.drew = .ok vs w.drew) (ho : (Builtin.firstCells j.size sLen (.slice base sLen sCap)).run P w.drew = .ok os w.drew) (hc : ¬ (sLen + n ≤ sCap)) (hb : (sLen + n) * j.bytes ≤ 140737488355328) (hb0 : 0 < j.bytes) :
 ∃ cap rest w1, w1 = w.drew ∧ sLen + n ≤ cap ∧ rest.size = (cap - (sLen + n)) * j.size ∧
  (Builtin.append_ #[st, xt] ty #[.slice base sLen sCap, vx]).run P w = .ok (.slice (some ⟨w.heap.size, 0, none⟩) (sLen + n) cap) (w1.alloc (.cells (os ++ vs ++ rest) e)) := by
 obtain ⟨z, hz0, hzs, _⟩ := run_zero (w := w.drew) (hT _ _ hj)
 obtain ⟨f, hf, hfb, hfs⟩ := run_bytes w (hT _ _ hj)
 obtain ⟨f', hf', hfb', hfs'⟩ := run_bytes w.drew (hT _ _ hj)
 refine ⟨(Question.appendCap (sLen + n) sCap e).cut (w.tape w.drawn (.appendCap (sLen + n) sCap e)), Builtin.zeroCells z.cells ((Question.appendCap (sLen + n) sCap e).cut (w.tape w.drawn (.appendCap (sLen + n) sCap e)) - (sLen + n)), w.drew, rfl, ?_, ?_, ?_⟩
 · simp only [Question.cut]; omega
 · simp [Builtin.zeroCells, hzs]
 · have hg := growslice_fits (need := sLen + n) (old := sCap) (bytes := j.bytes) (by omega) hb
   simp only [Builtin.append_]
   rcases hdx with ⟨e', hx⟩ | hx
   all_goals simp only [List.getElem?_toArray, List.getElem?_cons_zero, List.getElem?_cons_succ, Sem.run_bind, zq _ (hT _ _ hi), Result.andThen_ok, hd, run_size _ (hT _ _ hj), zq _ (hT _ _ hix), hx, Sem.run_pure]
   all_goals simp only [Result.andThen_ok, Bool.false_eq_true, if_false, hn, if_neg hc, Sem.run_bind, hf, hfb]
   all_goals rw [if_neg (by simp; omega)]
   all_goals simp only [Sem.run_bind, hf, Result.andThen_ok, hfb]
   all_goals rw [if_neg (by omega)]
   all_goals simp only [Sem.run_bind, run_choose, Result.andThen_ok, Question.forced, Bool.false_eq_true, if_false, World.drew_eq, hf', run_askRoom]
   all_goals rw [ho]
   all_goals simp only [Result.andThen_ok, Bool.not_false, if_true]
   all_goals rw [hv]
   all_goals simp only [Result.andThen_ok, hz0, Go.newRow, Sem.run_bind, run_newObj, Sem.run_pure, World.alloc_eq]
   all_goals rfl
end
theorem Store.set_at {σ : Store} {id ver : Nat} {cs : List AV} (h : Store.at σ id ver = some cs) : σ.set id (.cells ver cs) = σ := by
 apply List.ext_getElem?
 intro k
 by_cases hk : k = id
 · subst hk; rw [List.getElem?_set_self (Store.at_lt h), Store.at_some h]
 · rw [List.getElem?_set_ne (fun e => hk e.symm)]
theorem srcCells_ds {σ : Store} {size len q : Nat} {nl tight : Bool} {cells old : List AV} (h : srcCells σ size (.ds nl cells len tight) = some (q, old)) : q = len := by
 simp only [srcCells] at h
 split at h
 · simp only [Option.some.injEq, Prod.mk.injEq] at h; exact h.1.symm
 · cases h
theorem srcCells_os {σ : Store} {size len q sz id ver off : Nat} {nl tight : Bool} {old : List AV} (h : srcCells σ size (.os nl sz id ver off len tight) = some (q, old)) : q = len := by
 simp only [srcCells] at h
 split at h
 · split at h
   · simp only [Option.some.injEq, Prod.mk.injEq] at h; exact h.1.symm
   · cases h
 · cases h
theorem run_evAppend {P : Program} {T : TT} (hT : TOK P T) {E : Env} {σ σ' : Store} (hS : SR E σ) {st xt ty : TypeId} {s x : AV} {vs vx : Value} (hs : VR E s vs) (hx : VR E x vx) {r : AV}
 (h : evAppend T st xt s x σ = some (r, σ')) : Out P E (Builtin.append_ #[st, xt] ty #[vs, vx]) r σ' := by
 unfold evAppend at h
 split at h
 case h_2 => cases h
 rename_i i ix hi hix
 have main : ∀ e, i.desc = .slice e → ((∃ e', ix.desc = .slice e') ∨ ix.desc = .string) → (match T e with
  | some j => match srcCells σ j.size x with
   | some (n, new) => if (lenOfAV s + n) * j.bytes ≤ 140737488355328 ∧ 0 < j.bytes ∧ 0 < j.size ∧ new.all AV.one = true then evAppendTo j.size s n new σ else none
   | none => none
  | none => none) = some (r, σ') → Out P E (Builtin.append_ #[st, xt] ty #[vs, vx]) r σ' := by
  clear h
  intro e hd hdx h
  split at h
  case h_2 => cases h
  rename_i j hj
  split at h
  case h_2 => cases h
  rename_i n new hsrc
  split at h
  case isFalse => cases h
  rename_i hcnd
  obtain ⟨hbig, hb0, hsz0, hone⟩ := hcnd
  have hlB0 : lenOfAV s + n ≤ 140737488355328 := Nat.le_trans (Nat.le_mul_of_pos_right _ hb0) hbig
  obtain ⟨hlen, hnew, hread⟩ := run_src (P := P) hS hx hsrc
  have hg1 := Grew.drew E.w
  obtain ⟨hS1, hx1⟩ := hS.grew hg1
  obtain ⟨_, _, hread1⟩ := run_src (P := P) hS1 (hx.ext hx1) hsrc
  -- a new row
  have fresh : ∀ (base : Option Addr) (sLen sCap : Nat) (old : List AV) (os : Array Value), vs = .slice base sLen sCap → ¬ (sLen + n ≤ sCap) → (sLen + n) * j.bytes ≤ 140737488355328 →
   (Builtin.firstCells j.size sLen (.slice base sLen sCap)).run P E.w.drew = .ok os E.w.drew → Told { E with w := E.w.drew } os old →
   ∃ cap conc E', (Builtin.append_ #[st, xt] ty #[vs, vx]).run P E.w = .ok (.slice (some ⟨E.w.heap.size, 0, none⟩) (sLen + n) cap) E'.w ∧ sLen + n ≤ cap ∧ E'.w = E.w.drew.alloc (.cells conc e) ∧ (old ++ new).length ≤ conc.size ∧
    (∀ k, k < (old ++ new).length → VR E (gc (old ++ new) k) (conc.getD k undef) ∨ VR { E with w := E.w.drew } (gc (old ++ new) k) (conc.getD k undef)) ∧ (old.length = sLen * j.size → cap * j.size ≤ conc.size) ∧
    E' = { E with w := E.w.drew.alloc (.cells conc e) } := by
   intro base sLen sCap old os hvs hc hb ho hto
   obtain ⟨nv, hnv, htn⟩ := hread1 n (Nat.le_refl _)
   rw [List.take_of_length_le (by omega)] at htn
   obtain ⟨cap, rest, w1, hw1, hcap, hrest, hrun⟩ := run_append_grows hT hi hix hd hdx hj (w := E.w) (ty := ty) hlen hnv ho hc hb hb0
   subst hw1
   have hta := told_append hto htn
   have hmore := Told.more (ws := rest) hta
   refine ⟨cap, os ++ nv ++ rest, { E with w := E.w.drew.alloc (.cells (os ++ nv ++ rest) e) }, by rw [hvs]; exact hrun, hcap, rfl, hmore.1, fun k hk => .inr (hmore.2 k hk), fun hol => ?_, rfl⟩
   have h1 : (os ++ nv).size = (old ++ new).length := hta.1
   have h2 : (old ++ new).length = (sLen + n) * j.size := by rw [List.length_append, hol, hnew, Nat.add_mul]
   have h3 : cap * j.size = (sLen + n) * j.size + (cap - (sLen + n)) * j.size := by rw [← Nat.add_mul]; congr 1; omega
   simp only [Array.size_append] at h1 ⊢
   omega
  have grewA : ∀ conc, Grew E.w (E.w.drew.alloc (.cells conc e)) := fun conc => (Grew.drew _).trans (Grew.alloc _ _)
  -- as a new object
  have asNew : ∀ (base : Option Addr) (sLen sCap : Nat) (old : List AV) (os : Array Value), vs = .slice base sLen sCap → ¬ (sLen + n ≤ sCap) → (sLen + n) * j.bytes ≤ 140737488355328 → old.length = sLen * j.size →
   (Builtin.firstCells j.size sLen (.slice base sLen sCap)).run P E.w.drew = .ok os E.w.drew → Told { E with w := E.w.drew } os old →
   Out P E (Builtin.append_ #[st, xt] ty #[vs, vx]) (.os true j.size σ.length 0 0 (sLen + n) false) (σ ++ [.cells 0 (old ++ new)]) := by
   intro base sLen sCap old os hvs hc hb hol ho hto
   obtain ⟨cap, conc, E', hrun, hcap, hw, hl, hv, hroom, hE'⟩ := fresh base sLen sCap old os hvs hc hb ho hto
   subst hE'
   have hxn : Ext E (E.new (E.w.drew.alloc (.cells conc e)) (some E.w.heap.size)) := Ext.new hS.stb (grewA conc) _ fun b hb => by cases hb; exact Nat.le_refl _
   have hxn1 : Ext { E with w := E.w.drew } (E.new (E.w.drew.alloc (.cells conc e)) (some E.w.heap.size)) := Ext.new (E := { E with w := E.w.drew }) hS1.stb (Grew.alloc _ _) (some E.w.heap.size) fun b hb => by cases hb; exact Nat.le_refl _
   obtain ⟨hS', hx'⟩ := hS.new (grewA conc) (ob := some E.w.heap.size) (fun b hb => by cases hb; simp) (o := .cells 0 (old ++ new)) (.inl ⟨E.w.heap.size, by simp [Env.new], conc, e, (0, 0), heap_push_new E.w.drew _, by simp, hl, fun k hk => by
    rcases hv k hk with h | h
    · exact h.ext hxn
    · exact h.ext hxn1⟩)
   refine ⟨_, E.new (E.w.drew.alloc (.cells conc e)) (some E.w.heap.size), hrun, ?_, hS', hx'⟩
   refine .os _ _ _ _ _ _ _ _ _ (Env.ok_new hS _ _) hcap (fun e => by cases e) (by first | (have h := hlB0; simp only [lenOfAV] at h; omega) | (have := Nat.le_mul_of_pos_right (sLen + n) hb0; omega)) fun ob hob => ?_
   rw [Env.loc_new hS] at hob
   cases hob
   refine ⟨_, rfl, .inr rfl, e, conc.size, ?_, (hT _ _ hj).ts, by have := hroom hol; omega⟩
   have := heap_push_new E.w.drew (.cells conc e)
   simp only [Env.new, World.shape?]
   rw [show E.w.heap.size = E.w.drew.heap.size from rfl, this]
  unfold evAppendTo at h
  split at h
  · -- data, tight
    rename_i nl cells len
    simp only [lenOfAV] at hbig
    obtain ⟨nv, hnv, htn⟩ := hread n (Nat.le_refl _)
    rw [List.take_of_length_le (by omega)] at htn
    have hsx := hs
    have hform : ∃ base, vs = .slice base len len := by
     cases hs with
     | dsn => exact ⟨none, rfl⟩
     | ds _ _ _ _ a cap vsf ha hr hv hcap ht hB => have := ht rfl; subst this; exact ⟨some a, rfl⟩
    obtain ⟨base, hbase⟩ := hform
    have hst : n = 0 → (match base with | some a => storeCells (a.add (len * j.size)) nv.toList | none => pure ()).run P E.w = .ok () E.w := by
     intro hn
     have hnil : new = [] := List.length_eq_zero_iff.1 (by rw [hnew, hn, Nat.zero_mul])
     have : nv.toList = [] := List.length_eq_zero_iff.1 (by rw [Array.length_toList, htn.1, hnil]; rfl)
     cases base <;> simp [this, storeCells]
    split at h
    · rename_i hl0
      cases h
      subst hl0
      by_cases hn : n = 0
      · have hrun := run_append_lies hT hi hix hd hdx hj (w := E.w) (ty := ty) hlen hnv (show 0 + n ≤ 0 by omega) (hst hn)
        subst hn
        have hnil : new = [] := List.length_eq_zero_iff.1 (by omega)
        subst hnil
        rw [← hbase] at hrun
        obtain ⟨hS', hx'⟩ := hS.new (Grew.refl E.w) (ob := none) (fun b hb => by cases hb) (o := .cells 0 []) (.inr ⟨rfl, by simp [Env.new]⟩)
        refine ⟨_, E.new E.w none, hrun, ?_, hS', hx'⟩
        rw [hbase]
        exact .osn _ _ _ _ _ _ (Env.ok_new hS _ _) fun ob hob => by rw [Env.loc_new hS] at hob; cases hob; rfl
      · have := asNew base 0 0 [] #[] hbase (by omega) (by simpa using hbig) (by simp) (by
         cases base with
         | none => rfl
         | some a => show (loadCells a (0 * j.size)).run P E.w.drew = _; rw [Nat.zero_mul]; rfl) (Told.nil _)
        simpa using this
    · split at h
      · rename_i hn
        cases h
        have hrun := run_append_lies hT hi hix hd hdx hj (w := E.w) (ty := ty) hlen hnv (show len + n ≤ len by omega) (hst hn)
        rw [hn, Nat.add_zero, ← hbase] at hrun
        exact .same hS hrun hsx
      · rename_i hn
        split at h
        · rename_i q old hold
          cases h
          obtain ⟨_, hol, hrdo⟩ := run_src (P := P) hS1 (hsx.ext hx1) hold
          have hq : q = len := srcCells_ds hold
          subst hq
          obtain ⟨ov, hov, hto⟩ := hrdo q (Nat.le_refl _)
          rw [List.take_of_length_le (by omega)] at hto
          rw [hbase] at hov
          exact asNew base q q old ov hbase (by omega) hbig hol hov hto
        · cases h
  · -- owned, not tight
    rename_i nl sz id ver off len
    split at h
    · rename_i cs hcs
      split at h
      · rename_i hc
        obtain ⟨c1, c2, c3⟩ := hc
        subst c1; subst c2
        cases h
        simp only [lenOfAV] at hbig
        have hne : ∀ w' ob, (E.move w' id (ver + 1) ob).ok id (ver + 1) := fun w' ob => ⟨by have := Store.at_lt hcs; have := hS.len; simp [Env.move]; omega, fun v o hvo => by simp [Env.move] at hvo; omega⟩
        cases hs with
        | osn _ _ _ _ _ a0 hk hn0 =>
         have hl : E.loc id = some (ver, none) := by
          rcases hS.at hcs with ⟨b, h1, _⟩ | ⟨_, h2⟩
          · have := hn0 _ h1; cases this
          · exact h2
         have hcs0 : cs = [] := by
          rcases hS.at hcs with ⟨b, h1, _⟩ | ⟨h2, _⟩
          · rw [hl] at h1; cases h1
          · exact h2
         subst hcs0
         obtain ⟨nv, hnv, htn⟩ := hread n (Nat.le_refl _)
         rw [List.take_of_length_le (by omega)] at htn
         simp only [Nat.zero_add, List.nil_append]
         by_cases hn : n = 0
         · subst hn
           have hnil : new = [] := List.length_eq_zero_iff.1 (by omega)
           subst hnil
           have hst : (match a0 with | some a => storeCells (a.add (0 * j.size)) nv.toList | none => pure ()).run P E.w = .ok () E.w := by
            have : nv.toList = [] := List.length_eq_zero_iff.1 (by rw [Array.length_toList, htn.1]; rfl)
            cases a0 <;> simp [this, storeCells]
           have hrun := run_append_lies hT hi hix hd hdx hj (w := E.w) (base := a0) (sLen := 0) (sCap := 0) (ty := ty) hlen hnv (Nat.le_refl _) (w' := E.w) hst
           obtain ⟨hS', hx'⟩ := hS.move (Grew.refl E.w) hcs hl (ob := none) (fun b hb => by cases hb) (cs := []) (.inr ⟨rfl, by simp [Env.move]⟩)
           refine ⟨_, E.move E.w id (ver + 1) none, hrun, ?_, hS', hx'⟩
           exact .osn _ _ _ _ _ _ (hne _ _) fun ob hob => by simp [Env.move] at hob; exact hob.symm
         · obtain ⟨cap, conc, E', hrun, hcap, hw, hl', hv, hroom, hE'⟩ := fresh a0 0 0 [] #[] rfl (by omega) (by simpa using hbig) (by
            cases a0 with
            | none => rfl
            | some a => show (loadCells a (0 * j.size)).run P E.w.drew = _; rw [Nat.zero_mul]; rfl) (Told.nil _)
           subst hE'
           have hxm : Ext E (E.move (E.w.drew.alloc (.cells conc e)) id (ver + 1) (some E.w.heap.size)) := Ext.move hS.stb (grewA conc) hl _ fun b hb => by cases hb; exact .inl (Nat.le_refl _)
           have hxm1 : Ext { E with w := E.w.drew } (E.move (E.w.drew.alloc (.cells conc e)) id (ver + 1) (some E.w.heap.size)) := Ext.move (E := { E with w := E.w.drew }) hS1.stb (Grew.alloc _ _) hl _ fun b hb => by cases hb; exact .inl (Nat.le_refl _)
           obtain ⟨hS', hx'⟩ := hS.move (grewA conc) hcs hl (ob := some E.w.heap.size) (fun b hb => by cases hb; exact ⟨.inl (Nat.le_refl _), by simp⟩) (cs := new) (.inl ⟨E.w.heap.size, by simp [Env.move], conc, e, (0, 0), heap_push_new E.w.drew _, by simp, by simpa using hl', fun k hk => by
            rcases hv k (by simpa using hk) with h | h
            · exact (by simpa using h : VR E _ _).ext hxm
            · exact (by simpa using h : VR { E with w := E.w.drew } _ _).ext hxm1⟩)
           refine ⟨_, E.move (E.w.drew.alloc (.cells conc e)) id (ver + 1) (some E.w.heap.size), hrun, ?_, hS', hx'⟩
           simp only [Nat.zero_add] at hcap ⊢
           refine .os _ _ _ _ _ _ _ _ _ (hne _ _) hcap (fun e => by cases e) (by first | (have h := hlB0; simp only [lenOfAV] at h; omega) | (have := Nat.le_mul_of_pos_right (sLen + n) hb0; omega)) fun ob hob => ?_
           simp only [Env.move, if_true, Option.some.injEq, Prod.mk.injEq, true_and] at hob
           subst hob
           refine ⟨_, rfl, .inr rfl, e, conc.size, ?_, (hT _ _ hj).ts, by have := hroom (by simp); omega⟩
           have := heap_push_new E.w.drew (.cells conc e)
           simp only [Env.move, World.shape?]
           rw [show E.w.heap.size = E.w.drew.heap.size from rfl, this]
        | os _ _ _ _ _ _ _ a cap hk hcap ht hB hp =>
         have hlive : ∃ b, E.loc id = some (ver, some b) ∧ Blk E b cs := by
          rcases hS.at hcs with h1 | ⟨_, h2⟩
          · exact h1
          · obtain ⟨b, e1, _⟩ := hp _ h2; cases e1
         obtain ⟨b, hl, hblk⟩ := hlive
         obtain ⟨b', e1, e2, t, m, hm, hmts, hmle⟩ := hp _ hl
         cases e1
         obtain ⟨nv, hnv, htn⟩ := hread n (Nat.le_refl _)
         rw [List.take_of_length_le (by omega)] at htn
         by_cases hfit : len + n ≤ cap
         · -- it lies
           have hle : (len + n) * j.size ≤ cap * j.size := Nat.mul_le_mul_right _ hfit
           rw [Nat.add_mul] at hle
           have hSw := hS.widen hcs hl hm new.length (by omega)
           have hcs1 := Store.at_set (ver' := ver) (cs' := cs ++ List.replicate new.length .u) hcs
           by_cases hn : n = 0
           · subst hn
             have hnil : new = [] := List.length_eq_zero_iff.1 (by omega)
             subst hnil
             have hst : (match (some a : Option Addr) with | some a => storeCells (a.add (len * j.size)) nv.toList | none => pure ()).run P E.w = .ok () E.w := by
              have : nv.toList = [] := List.length_eq_zero_iff.1 (by rw [Array.length_toList, htn.1]; rfl)
              simp [this, storeCells]
             have hrun := run_append_lies hT hi hix hd hdx hj (w := E.w) (base := some a) (ty := ty) hlen hnv hfit hst
             simp only [Nat.add_zero, List.append_nil] at hrun ⊢
             obtain ⟨hS', hx'⟩ := hS.move (Grew.refl E.w) hcs hl (ob := some b) (fun b hb => by cases hb; exact ⟨.inr rfl, (hS.blk _ _ _ hl).1⟩) (cs := cs) (.inl ⟨b, by simp [Env.move], by
              obtain ⟨conc, t, fr, a1, a2, a3, a4⟩ := hblk.blk
              exact ⟨conc, t, fr, a1, a2, a3, fun k hk => (a4 k hk).ext (Ext.move hS.stb (Grew.refl _) hl _ fun b hb => by cases hb; exact .inr rfl)⟩⟩)
             refine ⟨_, E.move E.w id (ver + 1) (some b), hrun, ?_, hS', hx'⟩
             refine .os _ _ _ _ _ _ _ _ _ (hne _ _) hcap (fun e => by cases e) (by first | (have h := hlB0; simp only [lenOfAV] at h; omega) | (have := Nat.le_mul_of_pos_right (sLen + n) hb0; omega)) fun ob hob => ?_
             simp only [Env.move, if_true, Option.some.injEq, Prod.mk.injEq, true_and] at hob
             subst hob
             exact ⟨_, rfl, e2, t, m, hm, hmts, hmle⟩
           · have hcap0 : cap ≠ 0 := by omega
             have := e2.resolve_left hcap0
             subst this
             obtain ⟨E1, hr1, hS2, hx2⟩ := run_storeCells_put (P := P) new hSw hcs1 hl nv.toList cs.length 0 (by simp) (by rw [Array.length_toList]; exact htn.1) (fun k hk => by
              have := htn.2 k hk
              have e : nv.toList.getD k undef = nv.getD k undef := by simp
              rw [e]; exact this) (fun x hx => List.all_eq_true.1 hone x hx)
             rw [List.set_set, Nat.add_zero, setRun_end _ _ _ (by simp)] at hS2
             have hst : (match (some ⟨b, 0, none⟩ : Option Addr) with | some a => storeCells (a.add (len * j.size)) nv.toList | none => pure ()).run P E.w = .ok () E1.w := by
              simp only [add_plain, Nat.zero_add]
              rw [← c3]; exact hr1
             have hrun := run_append_lies hT hi hix hd hdx hj (w := E.w) (base := some ⟨b, 0, none⟩) (ty := ty) hlen hnv hfit hst
             have hcs2 : Store.at (σ.set id (.cells ver (cs ++ new))) id ver = some (cs ++ new) := Store.at_set hcs
             have hl1 : E1.loc id = some (ver, some b) := by
              have hobj := hS2.at hcs2
              rcases hobj with ⟨b1, h1, _⟩ | ⟨h1, _⟩
              · have := hx2.back hk h1
                rw [hl] at this; cases this; exact h1
              · have : (cs ++ new).length = 0 := by rw [h1]; rfl
                simp at this
                have : new.length = 0 := by rw [this.2]; rfl
                have h0 : n * j.size = 0 := by omega
                rcases Nat.mul_eq_zero.1 h0 with h | h <;> omega
             obtain ⟨hS3, hx3⟩ := hS2.move (Grew.refl E1.w) hcs2 hl1 (ob := some b) (fun b hb => by cases hb; exact ⟨.inr rfl, (hS2.blk _ _ _ hl1).1⟩) (cs := cs ++ new) (.inl ⟨b, by simp [Env.move], by
              rcases hS2.at hcs2 with ⟨b1, h1, hblk1⟩ | ⟨_, h1⟩
              · rw [hl1] at h1; cases h1
                obtain ⟨conc, t, fr, a1, a2, a3, a4⟩ := hblk1.blk
                exact ⟨conc, t, fr, a1, a2, a3, fun k hk => (a4 k hk).ext (Ext.move hS2.stb (Grew.refl _) hl1 _ fun b hb => by cases hb; exact .inr rfl)⟩
              · rw [hl1] at h1; cases h1⟩)
             rw [List.set_set] at hS3
             refine ⟨_, E1.move E1.w id (ver + 1) (some b), hrun, ?_, hS3, hx2.trans hx3⟩
             have hok : (E1.move E1.w id (ver + 1) (some b)).ok id (ver + 1) := ⟨Nat.lt_of_lt_of_le hk.1 hx2.n, fun v o hvo => by simp [Env.move] at hvo; omega⟩
             refine .os _ _ _ _ _ _ _ _ _ hok hfit (fun e => by cases e) (by first | (have h := hlB0; simp only [lenOfAV] at h; omega) | (have := Nat.le_mul_of_pos_right (sLen + n) hb0; omega)) fun ob hob => ?_
             simp only [Env.move, if_true, Option.some.injEq, Prod.mk.injEq, true_and] at hob
             subst hob
             exact ⟨_, rfl, .inr rfl, t, m, hx2.shape _ _ hm, hmts, hmle⟩
         · -- it grows
           obtain ⟨_, _, hrdo⟩ := run_src (P := P) hS1 ((VR.os true j.size id ver 0 len false a cap hk hcap ht hB hp).ext hx1) (size := j.size) (n := len) (cs := cs) (by
            simp only [srcCells, hcs, List.drop_zero, Nat.zero_add]
            rw [if_pos (by omega), ← c3, List.take_length])
           obtain ⟨ov, hov, hto⟩ := hrdo len (Nat.le_refl _)
           rw [← c3, List.take_length] at hto
           obtain ⟨capn, conc, E', hrun, hcapn, hw, hl', hv, hroom, hE'⟩ := fresh (some a) len cap cs ov rfl hfit hbig hov hto
           subst hE'
           have hxm : Ext E (E.move (E.w.drew.alloc (.cells conc e)) id (ver + 1) (some E.w.heap.size)) := Ext.move hS.stb (grewA conc) hl _ fun b hb => by cases hb; exact .inl (Nat.le_refl _)
           have hxm1 : Ext { E with w := E.w.drew } (E.move (E.w.drew.alloc (.cells conc e)) id (ver + 1) (some E.w.heap.size)) := Ext.move (E := { E with w := E.w.drew }) hS1.stb (Grew.alloc _ _) hl _ fun b hb => by cases hb; exact .inl (Nat.le_refl _)
           obtain ⟨hS', hx'⟩ := hS.move (grewA conc) hcs hl (ob := some E.w.heap.size) (fun b hb => by cases hb; exact ⟨.inl (Nat.le_refl _), by simp⟩) (cs := cs ++ new) (.inl ⟨E.w.heap.size, by simp [Env.move], conc, e, (0, 0), heap_push_new E.w.drew _, by simp, hl', fun k hk => by
            rcases hv k hk with h | h
            · exact h.ext hxm
            · exact h.ext hxm1⟩)
           refine ⟨_, E.move (E.w.drew.alloc (.cells conc e)) id (ver + 1) (some E.w.heap.size), hrun, ?_, hS', hx'⟩
           refine .os _ _ _ _ _ _ _ _ _ (hne _ _) hcapn (fun e => by cases e) (by first | (have h := hlB0; simp only [lenOfAV] at h; omega) | (have := Nat.le_mul_of_pos_right (sLen + n) hb0; omega)) fun ob hob => ?_
           simp only [Env.move, if_true, Option.some.injEq, Prod.mk.injEq, true_and] at hob
           subst hob
           refine ⟨_, rfl, .inr rfl, e, conc.size, ?_, (hT _ _ hj).ts, by have := hroom c3; omega⟩
           have := heap_push_new E.w.drew (.cells conc e)
           simp only [Env.move, World.shape?]
           rw [show E.w.heap.size = E.w.drew.heap.size from rfl, this]
      · cases h
    · cases h
  · -- owned, tight
    rename_i nl sz id ver off len
    simp only [lenOfAV] at hbig
    obtain ⟨nv, hnv, htn⟩ := hread n (Nat.le_refl _)
    rw [List.take_of_length_le (by omega)] at htn
    have hsx := hs
    have hform : ∃ base, vs = .slice base len len := by
     cases hs with
     | osn => exact ⟨_, rfl⟩
     | os _ _ _ _ _ _ _ a cap hk hcap ht hB hp => have := ht rfl; subst this; exact ⟨some a, rfl⟩
    obtain ⟨base, hbase⟩ := hform
    split at h
    · rename_i hn
      cases h
      have hnil : new = [] := List.length_eq_zero_iff.1 (by rw [hnew, hn, Nat.zero_mul])
      have hst : (match base with | some a => storeCells (a.add (len * j.size)) nv.toList | none => pure ()).run P E.w = .ok () E.w := by
       have : nv.toList = [] := List.length_eq_zero_iff.1 (by rw [Array.length_toList, htn.1, hnil]; rfl)
       cases base <;> simp [this, storeCells]
      have hrun := run_append_lies hT hi hix hd hdx hj (w := E.w) (ty := ty) hlen hnv (show len + n ≤ len by omega) hst
      rw [hn, Nat.add_zero, ← hbase] at hrun
      exact .same hS hrun hsx
    · rename_i hn
      split at h
      · rename_i q old hold
        cases h
        obtain ⟨_, hol, hrdo⟩ := run_src (P := P) hS1 (hsx.ext hx1) hold
        have hq : q = len := srcCells_os hold
        subst hq
        obtain ⟨ov, hov, hto⟩ := hrdo q (Nat.le_refl _)
        rw [List.take_of_length_le (by omega)] at hto
        rw [hbase] at hov
        exact asNew base q q old ov hbase (by omega) hbig hol hov hto
      · cases h
  · cases h
 split at h
 · rename_i e e' hd hd'
   exact main e hd (.inl ⟨e', hd'⟩) h
 · rename_i e hd hd'
   exact main e hd (.inr hd') h
 · cases h
end AM
end Go.Proofs.YtaddlmlpeghonaaDoor
