import Derived.Test.YtaddlmlpeghonaaDoorUBb
import Derived.Laws.AppendOwn
set_option linter.unusedSimpArgs false
set_option linter.unusedVariables false
set_option linter.constructorNameAsVariable false
namespace Go.Proofs.YtaddlmlpeghonaaDoor
namespace AM
open Go.RowKit
theorem add_plain (b o j : Nat) : (⟨b, o, none⟩ : Addr).add j = ⟨b, o + j, none⟩ := by
 unfold Addr.add; split <;> simp_all
def evRd (cs : List AV) (off size : Nat) (agg : Bool) : Option AV :=
 if agg then (if off + size ≤ cs.length then some (.agg ((cs.drop off).take size)) else none)
 else (if off < cs.length then some (gc cs off) else none)
theorem gc_drop_take (cs : List AV) (off size i : Nat) (hi : i < size) (h : off + size ≤ cs.length) : gc ((cs.drop off).take size) i = gc cs (off + i) := by
 simp only [gc, List.getD_eq_getElem?_getD, List.getElem?_take, hi, if_true, List.getElem?_drop]
theorem run_loadVar_rd {P : Program} {E : Env} {t : TypeId} {i : TI} (hT : TI.OK P t i) {b o off : Nat} {cs : List AV} {r : AV}
 (hc : ∀ j, off + j < cs.length → ∃ v, E.w.cell? ⟨b, o + j, none⟩ = some v ∧ VR E (gc cs (off + j)) v) (h : evRd cs off i.size i.agg = some r) :
 ∃ cv, (loadVar t ⟨b, o, none⟩).run P E.w = .ok cv E.w ∧ VR E r cv := by
 unfold evRd at h
 unfold loadVar
 simp only [Sem.run_bind, run_agg _ hT, Result.andThen_ok]
 cases hg : i.agg with
 | true =>
  simp only [hg, if_true] at h
  split at h
  · rename_i hl
    cases h
    have hf : ∀ j, ∃ v, j < i.size → E.w.cell? ⟨b, o + j, none⟩ = some v ∧ VR E (gc cs (off + j)) v := by
     intro j
     by_cases hj : j < i.size
     · obtain ⟨v, hv⟩ := hc j (by omega); exact ⟨v, fun _ => hv⟩
     · exact ⟨undef, fun h => absurd h hj⟩
    obtain ⟨f, hf⟩ := Classical.skolem.1 hf
    refine ⟨.agg ((List.range i.size).map f).toArray, ?_, ?_⟩
    · simp only [if_true, Sem.run_bind, run_size _ hT, Result.andThen_ok]
      rw [run_loadCells E.w ⟨b, o, none⟩ i.size f (fun j hj => by rw [add_plain]; exact (hf j hj).1)]
      rfl
    · refine .agg _ _ (by simp; omega) fun j hj => ?_
      have hj' : j < i.size := by simp at hj; omega
      rw [gc_drop_take _ _ _ _ hj' hl]
      have : (((List.range i.size).map f).toArray).getD j undef = f j := by simp [hj']
      rw [this]
      exact (hf j hj').2
  · cases h
 | false =>
  simp only [hg, Bool.false_eq_true, if_false] at h
  split at h
  · rename_i hl
    cases h
    obtain ⟨v, hv, hr⟩ := hc 0 (by omega)
    refine ⟨v, ?_, by simpa using hr⟩
    simp only [Nat.add_zero] at hv
    simp [hv]
  · cases h
def Store.at (σ : Store) (id ver : Nat) : Option (List AV) :=
 match σ[id]? with
 | some (.cells v cs) => if v = ver then some cs else none
 | _ => none
theorem Store.at_some {σ : Store} {id ver : Nat} {cs : List AV} (h : Store.at σ id ver = some cs) : σ[id]? = some (.cells ver cs) := by
 unfold Store.at at h
 split at h
 · rename_i v c hs
   split at h
   · rename_i hv; cases h; rw [hs, hv]
   · cases h
 · cases h
theorem SR.at {E : Env} {σ : Store} (hS : SR E σ) {id ver : Nat} {cs : List AV} (h : Store.at σ id ver = some cs) :
 (∃ b, E.loc id = some (ver, some b) ∧ Blk E b cs) ∨ (cs = [] ∧ E.loc id = some (ver, none)) := by
 have := hS.obj id
 rw [Store.at_some h] at this
 exact this
theorem Store.at_lt {σ : Store} {id ver : Nat} {cs : List AV} (h : Store.at σ id ver = some cs) : id < σ.length :=
 (List.getElem?_eq_some_iff.1 (Store.at_some h)).1
def Env.put (E : Env) (b o : Nat) (v : Value) : Env := { E with w := E.w.setCell ⟨b, o, none⟩ v }
theorem heap_setCell_same {w : World} {b o : Nat} {v : Value} {conc : Array Value} {t : TypeId} {fr : Nat × Nat} (h : w.heap[b]? = some (.cells conc t fr)) :
 (w.setCell ⟨b, o, none⟩ v).heap[b]? = some (.cells (conc.setIfInBounds o v) t fr) := by
 simp [World.setCell, Array.getElem?_modify, h]
theorem heap_setCell_other {w : World} {b b' o : Nat} {v : Value} (h : b' ≠ b) : (w.setCell ⟨b, o, none⟩ v).heap[b']? = w.heap[b']? := by
 simp only [World.setCell, Array.getElem?_modify]
 rw [if_neg (by exact fun e => h e.symm)]
theorem shape_setCell (w : World) (b o b' : Nat) (v : Value) : (w.setCell ⟨b, o, none⟩ v).shape? b' = w.shape? b' := by
 by_cases hb : b' = b
 · subst hb
   cases h : w.heap[b']? with
   | none =>
    have : (w.setCell ⟨b', o, none⟩ v).heap[b']? = none := by simp [World.setCell, Array.getElem?_modify, h]
    simp only [World.shape?, h, this]
   | some x =>
    cases x with
    | cells c t fr => simp only [World.shape?, h, heap_setCell_same h]; simp
    | _ =>
     have : (w.setCell ⟨b', o, none⟩ v).heap[b']? = w.heap[b']? := by simp [World.setCell, Array.getElem?_modify, h]
     simp only [World.shape?, this]
 · simp only [World.shape?, heap_setCell_other hb]
theorem Ext.put {E : Env} {b : Nat} (hb : ¬ E.st b) (hown : ∃ id v, E.loc id = some (v, some b)) (o : Nat) (v : Value) : Ext E (E.put b o v) where
 os := rfl
 tape := rfl
 output := rfl
 size := by simp [Env.put]
 shape := fun b' m h => by rw [Env.put, shape_setCell]; exact h
 st := fun b' h => ⟨h, heap_setCell_other (fun e => hb (e ▸ h))⟩
 n := Nat.le_refl _
 loc := fun _ _ ver ob h => ⟨ver, ob, h, Nat.le_refl _, fun _ => rfl⟩
 old := fun b' _ hn => heap_setCell_other (fun e => by subst e; obtain ⟨id, v', h⟩ := hown; exact hn id v' h)
 own := fun id v _ h _ => ⟨id, v, h⟩
 stn := fun _ h => .inl h
theorem gc_set (cs : List AV) (i j : Nat) (x : AV) (hi : i < cs.length) : gc (cs.set i x) j = if j = i then x else gc cs j := by
 simp only [gc, List.getD_eq_getElem?_getD, List.getElem?_set]
 by_cases h : j = i
 · subst h; simp [hi]
 · have : ¬ i = j := fun e => h e.symm
   simp [h, this]
theorem ObjR.extV {E E' : Env} (hx : ExtV E E') {id : Nat} {o : Option AObj} (hl : E'.loc id = E.loc id) (hb : ∀ v b, E.loc id = some (v, some b) → E'.w.heap[b]? = E.w.heap[b]?)
 (h : ObjR E id o) : ObjR E' id o := by
 cases o with
 | none => exact hl.trans h
 | some x =>
  cases x with
  | cells ver cs =>
   rcases h with ⟨b, h1, h2⟩ | ⟨h1, h2⟩
   · refine .inl ⟨b, hl.trans h1, ?_⟩
     obtain ⟨conc, t, fr, a1, a2, a3, a4⟩ := h2.blk
     exact ⟨conc, t, fr, (hb _ _ h1).trans a1, a2, a3, fun i hi => (a4 i hi).extV hx⟩
   · exact .inr ⟨h1, hl.trans h2⟩
  | map es =>
   obtain ⟨b, ents, clock, h1, h2, h3, h4⟩ := h
   exact ⟨b, ents, clock, hl.trans h1, (hb _ _ h1).trans h2, h3, fun i h h' => ⟨(h4 i h h').1.extV hx, (h4 i h h').2.extV hx⟩⟩
  | iter s pos =>
   obtain ⟨b, h1, h2⟩ := h
   exact ⟨b, hl.trans h1, (hb _ _ h1).trans h2⟩
  | dead => exact hl.trans h
theorem ObjR.ext {E E' : Env} (hx : Ext E E') {id : Nat} {o : Option AObj} (hl : E'.loc id = E.loc id) (hb : ∀ v b, E.loc id = some (v, some b) → E'.w.heap[b]? = E.w.heap[b]?)
 (h : ObjR E id o) : ObjR E' id o := h.extV hx.toV hl hb
theorem SR.put {E : Env} {σ : Store} (hS : SR E σ) {id ver b : Nat} {cs : List AV} (h : Store.at σ id ver = some cs) (hl : E.loc id = some (ver, some b)) {o : Nat} (ho : o < cs.length)
 {x : AV} {v : Value} (hv : VR E x v) : SR (E.put b o v) (σ.set id (.cells ver (cs.set o x))) ∧ Ext E (E.put b o v) := by
 have hb := (hS.blk id ver b hl)
 have hx : Ext E (E.put b o v) := Ext.put hb.2 ⟨id, ver, hl⟩ o v
 refine ⟨⟨by simpa [Env.put] using hS.len, fun id' => ?_, hS.inj, fun id' v' b' h' => ?_, fun b' h' => ?_, ?_⟩, hx⟩
 · by_cases hid : id' = id
   · subst hid
     have hlt : id' < σ.length := Store.at_lt h
     simp only [List.getElem?_set_self hlt]
     refine .inl ⟨b, hl, ?_⟩
     rcases hS.at h with ⟨b', h1, h2⟩ | ⟨h1, _⟩
     · rw [hl] at h1; cases h1
       obtain ⟨conc, t, fr, a1, a2, a3, a4⟩ := h2.blk
       refine ⟨conc.setIfInBounds o v, t, fr, heap_setCell_same a1, by simpa using a2, by simpa using a3, fun i hi => ?_⟩
       rw [gc_set _ _ _ _ ho]
       simp only [List.length_set] at hi
       by_cases hio : i = o
       · subst hio
         simp only [if_true]
         have : (conc.setIfInBounds i v).getD i undef = v := by simp [show i < conc.size by omega]
         rw [this]; exact hv.ext hx
       · simp only [hio, if_false]
         have : (conc.setIfInBounds o v).getD i undef = conc.getD i undef := by
          simp [Array.getElem?_setIfInBounds_ne (show o ≠ i from fun e => hio e.symm)]
         rw [this]; exact (a4 i hi).ext hx
     · subst h1; simp at ho
   · rw [List.getElem?_set_ne (fun e => hid e.symm)]
     exact (hS.obj id').ext hx rfl fun v' b' h' => heap_setCell_other (fun e => hid (hS.inj id' id v' ver b (e ▸ h') hl))
 · simpa [Env.put] using hS.blk id' v' b' h'
 · simpa [Env.put] using hS.stb b' h'
 · exact hS.glb.mono hx.st
theorem VR.oneCell {E : Env} {x : AV} {v : Value} (h : VR E x v) (h1 : x.one = true) : v.oneCell' = true := by
 cases h <;> first | rfl | (simp [AV.one] at h1)
theorem run_store_put {P : Program} {E : Env} {σ : Store} (hS : SR E σ) {id ver b : Nat} {cs : List AV} (h : Store.at σ id ver = some cs) (hl : E.loc id = some (ver, some b)) {o : Nat} (ho : o < cs.length)
 {x : AV} {v : Value} (hv : VR E x v) (h1 : x.one = true) : (store ⟨b, o, none⟩ v).run P E.w = .ok () (E.put b o v).w := by
 rcases hS.at h with ⟨b', e1, h2⟩ | ⟨e1, _⟩
 · rw [hl] at e1; cases e1
   obtain ⟨u, hu, _⟩ := h2.cell o ho
   rw [run_store P _ _ _ _ (hv.oneCell h1), hu]
   simp only [h2.frozen o ho]
   rfl
 · subst e1; simp at ho
def setRun : List AV → Nat → List AV → List AV
 | cs, _, [] => cs
 | cs, o, x :: xs => setRun (cs.set o x) (o + 1) xs
theorem length_setRun (xs : List AV) : ∀ (cs : List AV) (o : Nat), (setRun cs o xs).length = cs.length := by
 induction xs with
 | nil => intro cs o; rfl
 | cons x xs ih => intro cs o; simp [setRun, ih]
theorem Store.at_set {σ : Store} {id ver ver' : Nat} {cs cs' : List AV} (h : Store.at σ id ver = some cs) : Store.at (σ.set id (.cells ver' cs')) id ver' = some cs' := by
 unfold Store.at
 rw [List.getElem?_set_self (Store.at_lt h)]
 simp
theorem run_storeCells_put {P : Program} (xs : List AV) : ∀ {E : Env} {σ : Store} (_ : SR E σ) {id ver b : Nat} {cs : List AV} (_ : Store.at σ id ver = some cs) (_ : E.loc id = some (ver, some b))
 (vs : List Value) (o i : Nat) (_ : o + i + xs.length ≤ cs.length) (_ : vs.length = xs.length) (_ : ∀ j, j < xs.length → VR E (gc xs j) (vs.getD j undef)) (_ : ∀ x ∈ xs, x.one = true),
 ∃ E', (storeCells ⟨b, o, none⟩ vs i).run P E.w = .ok () E'.w ∧ SR E' (σ.set id (.cells ver (setRun cs (o + i) xs))) ∧ Ext E E' := by
 induction xs with
 | nil =>
  intro E σ hS id ver b cs h hl vs o i hle hvs hv h1
  have : vs = [] := List.length_eq_zero_iff.1 hvs
  subst this
  refine ⟨E, by simp [storeCells], ?_, Ext.refl E⟩
  have : σ.set id (.cells ver (setRun cs (o + i) [])) = σ := by
   rw [setRun]
   apply List.ext_getElem?
   intro j
   by_cases hj : j = id
   · subst hj; rw [List.getElem?_set_self (Store.at_lt h), Store.at_some h]
   · rw [List.getElem?_set_ne (fun e => hj e.symm)]
  rw [this]; exact hS
 | cons x xs ih =>
  intro E σ hS id ver b cs h hl vs o i hle hvs hv h1
  cases vs with
  | nil => simp at hvs
  | cons v vs =>
   have hle' : o + i + (xs.length + 1) ≤ cs.length := by simpa using hle
   have hv0 : VR E x v := by have := hv 0 (by simp); simpa [gc] using this
   have hr := run_store_put (P := P) hS h hl (show o + i < cs.length by omega) hv0 (h1 x (by simp))
   obtain ⟨hS1, hx1⟩ := hS.put h hl (show o + i < cs.length by omega) hv0
   obtain ⟨E', hr', hS', hx'⟩ := ih (E := E.put b (o + i) v) hS1 (id := id) (ver := ver) (b := b) (cs := cs.set (o + i) x) (Store.at_set h) hl vs o (i + 1)
    (by simp; omega) (by simpa using hvs) (fun j hj => by
     have := hv (j + 1) (by simp; omega)
     have e1 : gc (x :: xs) (j + 1) = gc xs j := by simp [gc]
     have e2 : (v :: vs).getD (j + 1) undef = vs.getD j undef := by simp
     rw [e1, e2] at this
     exact this.ext hx1) (fun y hy => h1 y (by simp [hy]))
   refine ⟨E', ?_, ?_, hx1.trans hx'⟩
   · simp only [storeCells, Sem.run_bind, add_plain, hr, Result.andThen_ok]
     exact hr'
   · rw [List.set_set] at hS'
     rw [setRun]
     exact hS'
def Env.new (E : Env) (w : World) (ob : Option Nat) : Env := { w := w, st := E.st, loc := fun i => if i = E.n then some (0, ob) else E.loc i, n := E.n + 1 }
theorem heap_push_old {w : World} {o : Obj} {b : Nat} (h : b < w.heap.size) : (w.alloc o).heap[b]? = w.heap[b]? := by
 show (w.heap.push o)[b]? = _
 rw [Array.getElem?_push, if_neg (by omega)]
theorem heap_push_new (w : World) (o : Obj) : (w.alloc o).heap[w.heap.size]? = some o := by
 show (w.heap.push o)[w.heap.size]? = _
 rw [Array.getElem?_push, if_pos rfl]
theorem shape_lt {w : World} {b : Nat} {m : TypeId × Nat} (h : w.shape? b = some m) : b < w.heap.size := by
 unfold World.shape? at h
 cases hh : w.heap[b]? with
 | none => rw [hh] at h; cases h
 | some x => exact (Array.getElem?_eq_some_iff.1 hh).1
structure Grew (w w' : World) : Prop where
 os : w'.os = w.os
 tape : w'.tape = w.tape
 output : w'.output = w.output
 size : w.heap.size ≤ w'.heap.size
 old : ∀ b, b < w.heap.size → w'.heap[b]? = w.heap[b]?
theorem Grew.refl (w : World) : Grew w w := ⟨rfl, rfl, rfl, Nat.le_refl _, fun _ _ => rfl⟩
theorem Grew.alloc (w : World) (o : Obj) : Grew w (w.alloc o) := ⟨rfl, rfl, rfl, by simp, fun _ h => heap_push_old h⟩
theorem Grew.drew (w : World) : Grew w w.drew := ⟨rfl, rfl, rfl, by simp, fun _ _ => rfl⟩
theorem Grew.trans {a b c : World} (h : Grew a b) (k : Grew b c) : Grew a c :=
 ⟨k.os.trans h.os, k.tape.trans h.tape, k.output.trans h.output, Nat.le_trans h.size k.size, fun i hi => (k.old i (Nat.lt_of_lt_of_le hi h.size)).trans (h.old i hi)⟩
theorem Grew.shape {w w' : World} (h : Grew w w') {b : Nat} {m : TypeId × Nat} (hm : w.shape? b = some m) : w'.shape? b = some m := by
 have := h.old b (shape_lt hm)
 simp only [World.shape?, this] at *
 exact hm
theorem Ext.grew {E : Env} {w' : World} (hst : ∀ b, E.st b → b < E.w.heap.size) (h : Grew E.w w') : Ext E { E with w := w' } where
 os := h.os
 tape := h.tape
 output := h.output
 size := h.size
 shape := fun _ _ hm => h.shape hm
 st := fun b hb => ⟨hb, h.old b (hst b hb)⟩
 n := Nat.le_refl _
 loc := fun _ _ ver ob hl => ⟨ver, ob, hl, Nat.le_refl _, fun _ => rfl⟩
 old := fun b hb _ => h.old b hb
 own := fun id v _ h _ => ⟨id, v, h⟩
 stn := fun _ h => .inl h
theorem SR.grew {E : Env} {σ : Store} (hS : SR E σ) {w' : World} (h : Grew E.w w') : SR { E with w := w' } σ ∧ Ext E { E with w := w' } := by
 have hx : Ext E { E with w := w' } := Ext.grew hS.stb h
 refine ⟨⟨hS.len, fun id => (hS.obj id).ext hx rfl fun v b hl => h.old b (hS.blk id v b hl).1, hS.inj, fun id v b hl => ?_, fun b hb => ?_, hS.glb.mono hx.st⟩, hx⟩
 · exact ⟨Nat.lt_of_lt_of_le (hS.blk id v b hl).1 h.size, (hS.blk id v b hl).2⟩
 · exact Nat.lt_of_lt_of_le (hS.stb b hb) h.size
theorem Ext.new {E : Env} {w' : World} (hst : ∀ b, E.st b → b < E.w.heap.size) (h : Grew E.w w') (ob : Option Nat) (hob : ∀ b, ob = some b → E.w.heap.size ≤ b) : Ext E (E.new w' ob) where
 os := h.os
 tape := h.tape
 output := h.output
 size := h.size
 shape := fun _ _ hm => h.shape hm
 st := fun b hb => ⟨hb, h.old b (hst b hb)⟩
 n := Nat.le_succ _
 loc := fun id hid ver ob' hl => by
  have : id ≠ E.n := by omega
  simp only [Env.new, this, if_false] at hl
  exact ⟨ver, ob', hl, Nat.le_refl _, fun _ => rfl⟩
 old := fun b hb _ => h.old b hb
 own := fun id v b hl hb => by
  simp only [Env.new] at hl
  split at hl
  · simp only [Option.some.injEq, Prod.mk.injEq] at hl
    have := hob b hl.2; omega
  · exact ⟨id, v, hl⟩
 stn := fun _ h => .inl h
theorem SR.new {E : Env} {σ : Store} (hS : SR E σ) {w' : World} (h : Grew E.w w') {ob : Option Nat} (hob : ∀ b, ob = some b → E.w.heap.size ≤ b ∧ b < w'.heap.size) {o : AObj}
 (ho : ObjR (E.new w' ob) E.n (some o)) : SR (E.new w' ob) (σ ++ [o]) ∧ Ext E (E.new w' ob) := by
 have hx : Ext E (E.new w' ob) := Ext.new hS.stb h ob fun b hb => (hob b hb).1
 have hne : ∀ id, id ≠ E.n → (E.new w' ob).loc id = E.loc id := fun id hid => by simp [Env.new, hid]
 refine ⟨⟨by simp [Env.new, hS.len], fun id => ?_, ?_, ?_, ?_, ?_⟩, hx⟩
 · by_cases hid : id = E.n
   · subst hid
     have : (σ ++ [o])[E.n]? = some o := by rw [← hS.len]; simp
     rw [this]; exact ho
   · have : (σ ++ [o])[id]? = σ[id]? := by
      by_cases hl : id < σ.length
      · rw [List.getElem?_append_left hl]
      · rw [List.getElem?_eq_none (show σ.length ≤ id by omega), List.getElem?_eq_none (by have := hS.len; simp; omega)]
     rw [this]
     exact (hS.obj id).ext hx (hne id hid) fun v b hl => h.old b (hS.blk id v b hl).1
 · intro id id' v v' b h1 h2
   have new : ∀ id v, (E.new w' ob).loc id = some (v, some b) → id ≠ E.n → b < E.w.heap.size := fun id v hl hid => by
    rw [hne id hid] at hl; exact (hS.blk id v b hl).1
   have old : ∀ v, (E.new w' ob).loc E.n = some (v, some b) → E.w.heap.size ≤ b := fun v hl => by
    simp only [Env.new, if_true, Option.some.injEq, Prod.mk.injEq] at hl; exact (hob b hl.2).1
   by_cases e1 : id = E.n
   · by_cases e2 : id' = E.n
     · rw [e1, e2]
     · subst e1; have := old v h1; have := new id' v' h2 e2; omega
   · by_cases e2 : id' = E.n
     · subst e2; have := old v' h2; have := new id v h1 e1; omega
     · rw [hne _ e1] at h1; rw [hne _ e2] at h2; exact hS.inj id id' v v' b h1 h2
 · intro id v b hl
   by_cases e1 : id = E.n
   · subst e1
     simp only [Env.new, if_true, Option.some.injEq, Prod.mk.injEq] at hl
     refine ⟨(hob b hl.2).2, fun hs => ?_⟩
     have := hS.stb b hs; have := (hob b hl.2).1; omega
   · rw [hne _ e1] at hl
     exact ⟨Nat.lt_of_lt_of_le (hS.blk id v b hl).1 h.size, (hS.blk id v b hl).2⟩
 · intro b hb
   exact Nat.lt_of_lt_of_le (hS.stb b hb) h.size
 · exact hS.glb.mono hx.st
theorem Env.ok_new {E : Env} {σ : Store} (hS : SR E σ) (w' : World) (ob : Option Nat) : (E.new w' ob).ok σ.length 0 := by
 have := hS.len
 refine ⟨by simp [Env.new]; omega, fun v o h => ?_⟩
 rw [this] at h
 simp only [Env.new, if_true, Option.some.injEq, Prod.mk.injEq] at h
 omega
theorem Env.loc_new {E : Env} {σ : Store} (hS : SR E σ) (w' : World) (ob : Option Nat) : (E.new w' ob).loc σ.length = some (0, ob) := by
 rw [hS.len]; simp [Env.new]
structure Flt (lo : Nat) (E : Env) (cs : List AV) (v : Value) (b : Nat) : Prop where
 v : v = .pointer (some ⟨b, 0, none⟩)
 lo : lo ≤ b
 hi : b < E.w.heap.size
 st : ¬ E.st b
 own : ∀ id v, E.loc id ≠ some (v, some b)
 blk : Blk E b cs
theorem Flt.ext {lo : Nat} {E E' : Env} (hx : Ext E E') {cs : List AV} {v : Value} {b : Nat} (h : Flt lo E cs v b) : Flt lo E' cs v b where
 v := h.v
 lo := h.lo
 hi := Nat.lt_of_lt_of_le h.hi hx.size
 st := fun hs => by
  rcases hx.stn b hs with h1 | h1 | ⟨id, v, h1⟩
  · exact h.st h1
  · exact absurd h.hi (by omega)
  · exact h.own id v h1
 own := fun id v hl => by
  obtain ⟨id', v', h'⟩ := hx.own id v b hl h.hi
  exact h.own id' v' h'
 blk := by
  obtain ⟨conc, t, fr, a1, a2, a3, a4⟩ := h.blk.blk
  exact ⟨conc, t, fr, (hx.old b h.hi h.own).trans a1, a2, a3, fun i hi => (a4 i hi).ext hx⟩
theorem ExtV.adopt (E : Env) (b : Nat) : ExtV E (E.new E.w (some b)) where
 shape := fun _ _ h => h
 st := fun _ h => ⟨h, rfl⟩
 n := Nat.le_succ _
 loc := fun id hid ver ob hl => by
  have : id ≠ E.n := by omega
  simp only [Env.new, this, if_false] at hl
  exact ⟨ver, ob, hl, Nat.le_refl _, fun _ => rfl⟩
theorem SR.adopt {E : Env} {σ : Store} (hS : SR E σ) {lo : Nat} {cs : List AV} {v : Value} {b : Nat} (h : Flt lo E cs v b) :
 SR (E.new E.w (some b)) (σ ++ [.cells 0 cs]) ∧ VR (E.new E.w (some b)) (.op σ.length 0 0) v := by
 have hx := ExtV.adopt E b
 have hne : ∀ id, id ≠ E.n → (E.new E.w (some b)).loc id = E.loc id := fun id hid => by simp [Env.new, hid]
 have heq : (E.new E.w (some b)).loc E.n = some (0, some b) := by simp [Env.new]
 refine ⟨⟨by simp [Env.new, hS.len], fun id => ?_, fun id id' v v' b' h1 h2 => ?_, fun id v b' h1 => ?_, hS.stb, hS.glb⟩, ?_⟩
 · by_cases hid : id = E.n
   · subst hid
     have : (σ ++ [AObj.cells 0 cs])[E.n]? = some (.cells 0 cs) := by rw [← hS.len]; simp
     rw [this]
     obtain ⟨conc, t, fr, a1, a2, a3, a4⟩ := h.blk.blk
     exact .inl ⟨b, heq, conc, t, fr, a1, a2, a3, fun i hi => (a4 i hi).extV hx⟩
   · have : (σ ++ [AObj.cells 0 cs])[id]? = σ[id]? := by
      by_cases hl : id < σ.length
      · rw [List.getElem?_append_left hl]
      · rw [List.getElem?_eq_none (show σ.length ≤ id by omega), List.getElem?_eq_none (by have := hS.len; simp; omega)]
     rw [this]
     exact (hS.obj id).extV hx (hne id hid) fun v b hl => rfl
 · by_cases e1 : id = E.n
   · by_cases e2 : id' = E.n
     · rw [e1, e2]
     · rw [hne id' e2] at h2
       rw [e1, heq] at h1
       cases h1
       exact absurd h2 (h.own id' v')
   · rw [hne id e1] at h1
     by_cases e2 : id' = E.n
     · rw [e2, heq] at h2
       cases h2
       exact absurd h1 (h.own id v)
     · rw [hne id' e2] at h2
       exact hS.inj id id' v v' b' h1 h2
 · by_cases e1 : id = E.n
   · rw [e1, heq] at h1
     cases h1
     exact ⟨h.hi, h.st⟩
   · rw [hne id e1] at h1
     exact hS.blk id v b' h1
 · rw [h.v]
   refine .op _ _ _ _ ⟨by simp [Env.new, hS.len], fun v ob hl => Nat.zero_le _⟩ fun b' hb => ?_
   rw [hS.len, heq] at hb
   cases hb; rfl
theorem Flt.adopt {lo : Nat} {E : Env} {cs : List AV} {v : Value} {b b' : Nat} (h : Flt lo E cs v b) (hb : b ≠ b') : Flt lo (E.new E.w (some b')) cs v b where
 v := h.v
 lo := h.lo
 hi := h.hi
 st := h.st
 own := fun id v hl => by
  by_cases e : id = E.n
  · subst e
    simp only [Env.new, if_true, Option.some.injEq, Prod.mk.injEq] at hl
    exact hb hl.2.symm
  · simp only [Env.new, e, if_false] at hl
    exact h.own id v hl
 blk := by
  obtain ⟨conc, t, fr, a1, a2, a3, a4⟩ := h.blk.blk
  exact ⟨conc, t, fr, a1, a2, a3, fun i hi => (a4 i hi).extV (ExtV.adopt E b')⟩
theorem ExtK.adopt {k : Nat} {E0 E : Env} (h : ExtK k E0 E) {b : Nat} (hb : E0.w.heap.size ≤ b) : ExtK k E0 (E.new E.w (some b)) :=
 { os := h.os, tape := h.tape, output := h.output, size := h.size, shape := h.shape, st := h.st, n := Nat.le_succ_of_le h.n, old := h.old, stn := h.stn,
   loc := fun id hid ver ob hl => by
    have : id ≠ E.n := by have := h.n; omega
    simp only [Env.new, this, if_false] at hl
    exact h.loc id hid ver ob hl
   own := fun id v b' hl hb' => by
    by_cases e : id = E.n
    · subst e
      simp only [Env.new, if_true, Option.some.injEq, Prod.mk.injEq] at hl
      omega
    · simp only [Env.new, e, if_false] at hl
      exact h.own id v b' hl hb' }
theorem SR.newRow {E : Env} {σ : Store} (hS : SR E σ) (conc : Array Value) (t : TypeId) (cs : List AV) (hl : cs.length ≤ conc.size) (hv : ∀ i, i < cs.length → VR E (gc cs i) (conc.getD i undef)) :
 let E' := E.new (E.w.alloc (.cells conc t)) (some E.w.heap.size)
 SR E' (σ ++ [.cells 0 cs]) ∧ Ext E E' := by
 intro E'
 have hg := Grew.alloc E.w (.cells conc t)
 have hx : Ext E E' := Ext.new hS.stb hg _ fun b hb => by cases hb; exact Nat.le_refl _
 refine hS.new hg (fun b hb => by cases hb; simp) (.inl ⟨E.w.heap.size, by simp [Env.new], conc, t, (0, 0), heap_push_new _ _, by simp, hl, fun i hi => (hv i hi).ext hx⟩)
end AM
end Go.Proofs.YtaddlmlpeghonaaDoor
