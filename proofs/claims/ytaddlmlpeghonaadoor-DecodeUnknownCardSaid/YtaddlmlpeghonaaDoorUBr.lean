import Derived.Test.YtaddlmlpeghonaaDoorUBp
set_option linter.unusedSimpArgs false
set_option linter.unusedVariables false
set_option linter.constructorNameAsVariable false
namespace Go.Proofs.YtaddlmlpeghonaaDoor
namespace AM
open Go.RowKit
theorem listR_canon {E E' : Env} {s : Bool} (hw : E'.w = E.w) (hst : ∀ b, E.st b → E'.st b) {l : List AV} {vs : List Value} (hc : canonL s l = true) (h : ListR E l vs) : ListR E' l vs :=
 ⟨h.1, fun i hi => VR.canonRenL hw hst l hc i hi (h.2 i hi)⟩
theorem ACalls.pureAt {P : Program} {f : FuncId} {args : List AV} {x : AV} (h : ACalls P f args [] fun r _ => r = x) (ha : canonL false args = true) (hx : x.canon false = true) (σ : Store) :
 ACalls P f args σ fun r σ' => r = x ∧ σ' = σ := by
 refine ⟨h.1, fun E vs hS hl => ?_⟩
 let Es : Env := { w := E.w, st := E.st, loc := fun _ => none, n := 0 }
 have hSs : SR Es [] := ⟨rfl, (fun id => by simp [ObjR, Es]), (fun id id' v v' b h => by cases h), (fun id v b h => by cases h), hS.stb, hS.glb⟩
 refine (h.2 Es vs hSs (listR_canon (E := E) (E' := Es) rfl (fun _ h => h) ha hl)).mono ?_
 rintro e w ⟨v, r, σ', E1, rfl, rfl, h3, h4, h5, rfl⟩
 let E2 : Env := { w := E1.w, st := E1.st, loc := E.loc, n := E.n }
 have hown : ∀ b, b < E.w.heap.size → E1.w.heap[b]? = E.w.heap[b]? := fun b hb => h5.old b hb fun id v h => by cases h
 have hext : Ext E E2 := {
  os := h5.os
  tape := h5.tape
  output := h5.output
  size := h5.size
  shape := h5.shape
  st := fun b hb => h5.st b hb
  n := Nat.le_refl _
  loc := fun _ _ v o h => ⟨v, o, h, Nat.le_refl _, fun _ => rfl⟩
  old := fun b hb _ => hown b hb
  own := fun id v _ h _ => ⟨id, v, h⟩
  stn := fun b hb => by
   rcases h5.stn b hb with h | h | ⟨_, _, h⟩
   · exact .inl h
   · exact .inr (.inl h)
   · cases h }
 refine ⟨v, r, σ, E2, rfl, rfl, ?_, ?_, hext, rfl, rfl⟩
 · exact VR.canonRen (E := E1) (E' := E2) rfl (fun _ h => h) _ hx h3
 · refine ⟨hS.len, fun id => (hS.obj id).ext hext rfl fun v b hb => hown b (hS.blk id v b hb).1, hS.inj, fun id v b hb => ?_, fun b hb => h4.stb b hb, h4.glb⟩
   refine ⟨Nat.lt_of_lt_of_le (hS.blk id v b hb).1 h5.size, fun hs => ?_⟩
   rcases h5.stn b hs with h | h | ⟨_, _, h⟩
   · exact (hS.blk id v b hb).2 h
   · have := (hS.blk id v b hb).1; exact Nat.lt_irrefl _ (Nat.lt_of_lt_of_le this h)
   · cases h
mutual
theorem VR.flatRen {E E' : Env} : ∀ (a : AV) {v : Value}, a.flat = true → VR E a v → VR E' a v
 | .u, _, _, h => .u _
 | .bool _, _, _, h => by cases h; exact .bool _
 | .int _ _, _, _, h => by cases h; exact .int _ _
 | .str _, _, _, h => by cases h with | str _ s h => exact .str _ _ h
 | .nilp, _, _, h => by cases h; exact .nilp
 | .nilm, _, _, h => by cases h; exact .nilm
 | .nilF, _, _, h => by cases h; exact .nilF
 | .nilI, _, _, h => by cases h; exact .nilI
 | .gp _, _, _, h => by cases h; exact .gp _
 | .agg cs, _, hc, h => by
  cases h with | agg _ vs hl hv => exact .agg _ vs hl fun i hi => VR.flatRenL cs (by simpa [AV.flat] using hc) i hi (hv i hi)
 | .tup cs, _, hc, h => by
  cases h with | tup _ vs hl hv => exact .tup _ vs hl fun i hi => VR.flatRenL cs (by simpa [AV.flat] using hc) i hi (hv i hi)
 | .ifc t a, _, hc, h => by
  cases h with | ifc _ _ v h => exact .ifc t a v (VR.flatRen a (by simpa [AV.flat] using hc) h)
 | .dp _ _, _, hc, _ => by simp [AV.flat] at hc
 | .ds _ _ _ _, _, hc, _ => by simp [AV.flat] at hc
 | .fn _ _ _, _, hc, _ => by simp [AV.flat] at hc
 | .op _ _ _, _, hc, _ => by simp [AV.flat] at hc
 | .os _ _ _ _ _ _ _, _, hc, _ => by simp [AV.flat] at hc
 | .mp _, _, hc, _ => by simp [AV.flat] at hc
 | .it _, _, hc, _ => by simp [AV.flat] at hc
theorem VR.flatRenL {E E' : Env} : ∀ (cs : List AV) (hc : flatL cs = true) (i : Nat) (hi : i < cs.length) {v : Value}, VR E (gc cs i) v → VR E' (gc cs i) v
 | [], _, _, hi, _, _ => absurd hi (by simp)
 | a :: cs, hc, 0, _, _, h => by
  simp only [flatL, Bool.and_eq_true] at hc
  exact VR.flatRen a hc.1 h
 | a :: cs, hc, i + 1, hi, _, h => by
  simp only [flatL, Bool.and_eq_true] at hc
  have e : gc (a :: cs) (i + 1) = gc cs i := by simp [gc]
  rw [e] at h ⊢
  exact VR.flatRenL cs hc.2 i (by simpa using hi) h
end
theorem ACalls.lend {P : Program} {f : FuncId} {args : List AV} {x : AV} (h : ACalls P f args [] fun r _ => r = x) (hx : x.flat = true) {σ : Store} {args' : List AV} (ls : Bool) (g : Nat) (ha : args'.map (tell σ [] ls g) = args) :
 ACalls P f args' σ fun r σ' => r = x ∧ σ' = σ := by
 refine ⟨h.1, fun E vs hS hl => ?_⟩
 have hSs : SR (E.ren []) [] := hS.tell (keep := []) List.nodup_nil (fun _ h => by cases h) ls g
 have hls : ListR (E.ren []) args vs.toList := by
  rw [← ha]
  refine ⟨by simpa using hl.1, fun i hi => ?_⟩
  rw [List.length_map] at hi
  rw [gc_map' hi]; exact VR.tell hS g _ (hl.2 i hi)
 refine (h.2 _ vs hSs hls).mono ?_
 rintro e w ⟨v, r, σ', E1, rfl, rfl, h3, h4, h5, rfl⟩
 let E2 : Env := { w := E1.w, st := E.st, loc := E.loc, n := E.n }
 have hown : ∀ b, b < E.w.heap.size → E1.w.heap[b]? = E.w.heap[b]? := fun b hb => h5.old b hb fun id v h => by simp [Env.ren] at h
 have hext : Ext E E2 := {
  os := h5.os
  tape := h5.tape
  output := h5.output
  size := h5.size
  shape := h5.shape
  st := fun b hb => ⟨hb, hown b (hS.stb b hb)⟩
  n := Nat.le_refl _
  loc := fun _ _ v o h => ⟨v, o, h, Nat.le_refl _, fun _ => rfl⟩
  old := fun b hb _ => hown b hb
  own := fun id v _ h _ => ⟨id, v, h⟩
  stn := fun b hb => .inl hb }
 refine ⟨v, r, σ, E2, rfl, rfl, VR.flatRen _ hx h3, ?_, hext, rfl, rfl⟩
 exact ⟨hS.len, fun id => (hS.obj id).ext hext rfl fun v b hb => hown b (hS.blk id v b hb).1, hS.inj, fun id v b hb => ⟨Nat.lt_of_lt_of_le (hS.blk id v b hb).1 h5.size, (hS.blk id v b hb).2⟩, fun b hb => Nat.lt_of_lt_of_le (hS.stb b hb) h5.size, hS.glb.mono hext.st⟩
mutual
def AV.ren (g : Nat → Nat) : AV → AV
 | .u => .u
 | .bool b => .bool b
 | .int k n => .int k n
 | .str s => .str s
 | .nilp => .nilp
 | .nilm => .nilm
 | .nilF => .nilF
 | .nilI => .nilI
 | .gp n => .gp n
 | .agg cs => .agg (renL g cs)
 | .tup cs => .tup (renL g cs)
 | .op id ver off => .op (g id) ver off
 | .os nl sz id ver off len t => .os nl sz (g id) ver off len t
 | .dp cs off => .dp (renL g cs) off
 | .ds nl cs len t => .ds nl (renL g cs) len t
 | .fn f a b => .fn f (renL g a) (renL g b)
 | .ifc t a => .ifc t (a.ren g)
 | .mp id => .mp (g id)
 | .it id => .it (g id)
def renL (g : Nat → Nat) : List AV → List AV
 | [] => []
 | a :: l => a.ren g :: renL g l
end
theorem renL_map (g : Nat → Nat) (l : List AV) : renL g l = l.map (AV.ren g) := by
 induction l with
 | nil => rfl
 | cons a l ih => simp [renL, ih]
theorem renL_length (g : Nat → Nat) (l : List AV) : (renL g l).length = l.length := by rw [renL_map]; simp
theorem renL_gc (g : Nat → Nat) {l : List AV} {i : Nat} (h : i < l.length) : gc (renL g l) i = (gc l i).ren g := by
 rw [renL_map, gc_map' h]
mutual
theorem ren_canon (g : Nat → Nat) {s : Bool} : ∀ (a : AV), a.canon s = true → a.ren g = a
 | .u, _ | .bool _, _ | .int _ _, _ | .str _, _ | .nilp, _ | .nilm, _ | .nilF, _ | .nilI, _ | .gp _, _ => rfl
 | .agg cs, h => by simp only [AV.canon] at h; simp only [AV.ren, renL_canon g cs h]
 | .tup cs, h => by simp only [AV.canon] at h; simp only [AV.ren, renL_canon g cs h]
 | .dp cs _, h => by simp only [AV.canon] at h; simp only [AV.ren, renL_canon g cs h]
 | .ds nl cs _ t, h => by simp only [AV.canon, Bool.and_eq_true] at h; simp only [AV.ren, renL_canon g cs h.2]
 | .fn _ a b, h => by simp only [AV.canon, Bool.and_eq_true] at h; simp only [AV.ren, renL_canon g a h.1, renL_canon g b h.2]
 | .ifc _ a, h => by simp only [AV.canon] at h; simp only [AV.ren, ren_canon g a h]
 | .op _ _ _, h | .os _ _ _ _ _ _ _, h | .mp _, h | .it _, h => by simp [AV.canon] at h
theorem renL_canon (g : Nat → Nat) {s : Bool} : ∀ (l : List AV), canonL s l = true → renL g l = l
 | [], _ => rfl
 | a :: l, h => by
  simp only [canonL, Bool.and_eq_true] at h
  simp only [renL, ren_canon g a h.1, renL_canon g l h.2]
end
theorem VR.renum {E E' : Env} {g : Nat → Nat} (hw : E'.w = E.w) (hst : ∀ b, E.st b → E'.st b) (hok : ∀ id ver, E.ok id ver → E'.ok (g id) ver) (hloc : ∀ id, id < E.n → ∀ p, E'.loc (g id) = some p → E.loc id = some p) :
 ∀ {a : AV} {v : Value}, VR E a v → VR E' (a.ren g) v := by
 intro a v h
 have row : ∀ {b o m : Nat} {vs : Nat → Value}, Row E.w E.st b o m vs → Row E'.w E'.st b o m vs := fun h => by
  rcases h with h | ⟨h1, h2⟩
  · exact .inl h
  · exact .inr ⟨hst _ h1, by rw [hw]; exact h2⟩
 induction h with
 | u v => exact .u _
 | bool b => exact .bool _
 | int k n => exact .int _ _
 | str l s h => exact .str _ _ h
 | agg cs vs hl _ ih => exact .agg _ vs (by rw [renL_length]; exact hl) fun i hi => by rw [renL_length] at hi; rw [renL_gc g hi]; exact ih i hi
 | tup cs vs hl _ ih => exact .tup _ vs (by rw [renL_length]; exact hl) fun i hi => by rw [renL_length] at hi; rw [renL_gc g hi]; exact ih i hi
 | nilp => exact .nilp
 | op id ver off a hk h => exact .op _ _ _ _ (hok _ _ hk) fun b hb => h b (hloc id hk.1 _ hb)
 | dp cells off b o vs hr _ ih => exact .dp _ off b o vs (by rw [renL_length]; exact row hr) fun i hi => by rw [renL_length] at hi; rw [renL_gc g hi]; exact ih i hi
 | dsn t => exact .dsn _
 | ds nl cells len t a cap vs ha hr _ hc ht hB ih =>
  exact .ds _ _ _ _ a cap vs (by rcases ha with h | h; exact .inl (by rw [h]; rfl); exact .inr h) (by rw [renL_length]; exact row hr) (fun i hi => by rw [renL_length] at hi; rw [renL_gc g hi]; exact ih i hi) hc ht hB
 | osn sz id ver off t a hk h => exact .osn _ _ _ _ _ _ (hok _ _ hk) fun ob hb => h ob (hloc id hk.1 _ hb)
 | os nl sz id ver off len t a cap hk hc ht hB h =>
  refine .os _ _ _ _ _ _ _ a cap (hok _ _ hk) hc ht hB fun ob hb => ?_
  obtain ⟨b, e1, e2, t', m, hs, hm⟩ := h ob (hloc id hk.1 _ hb)
  exact ⟨b, e1, e2, t', m, by rw [hw]; exact hs, hm⟩
 | mp id b hk h => exact .mp _ b (hok _ _ hk) fun ob hb => h ob (hloc id hk.1 _ hb)
 | nilm => exact .nilm
 | fn f first cap vf vc hf hc _ _ i1 i2 =>
  exact .fn f _ _ vf vc (by rw [renL_length]; exact hf) (by rw [renL_length]; exact hc) (fun i hi => by rw [renL_length] at hi; rw [renL_gc g hi]; exact i1 i hi) (fun i hi => by rw [renL_length] at hi; rw [renL_gc g hi]; exact i2 i hi)
 | nilF => exact .nilF
 | ifc t a v _ ih => exact .ifc t _ v ih
 | nilI => exact .nilI
 | it id b hk h => exact .it _ b (hok _ _ hk) fun ob hb => h ob (hloc id hk.1 _ hb)
 | gp n => exact .gp _
theorem VR.unren {E E' : Env} {g : Nat → Nat} (hw : E.w = E'.w) (hst : ∀ b, E'.st b → E.st b) (hok : ∀ id ver, E'.ok (g id) ver → E.ok id ver) (hloc : ∀ id, id < E.n → ∀ p, E.loc id = some p → E'.loc (g id) = some p) :
 ∀ {x : AV} {v : Value}, VR E' x v → ∀ a : AV, x = a.ren g → VR E a v := by
 have row : ∀ {b o m : Nat} {vs : Nat → Value}, Row E'.w E'.st b o m vs → Row E.w E.st b o m vs := fun h => by
  rcases h with h | ⟨h1, h2⟩
  · exact .inl h
  · exact .inr ⟨hst _ h1, by rw [hw]; exact h2⟩
 intro x v h
 induction h with
 | u v => intro a e; cases a <;> simp only [AV.ren, reduceCtorEq] at e; exact .u _
 | bool b => intro a e; cases a <;> simp only [AV.ren, reduceCtorEq, AV.bool.injEq] at e; subst e; exact .bool _
 | int k n => intro a e; cases a <;> simp only [AV.ren, reduceCtorEq, AV.int.injEq] at e; obtain ⟨rfl, rfl⟩ := e; exact .int _ _
 | str l s h => intro a e; cases a <;> simp only [AV.ren, reduceCtorEq, AV.str.injEq] at e; subst e; exact .str _ _ h
 | agg cs vs hl _ ih =>
  intro a e; cases a <;> simp only [AV.ren, reduceCtorEq, AV.agg.injEq] at e
  subst e
  rw [renL_length] at hl
  exact .agg _ vs hl fun i hi => ih i (by rw [renL_length]; exact hi) _ (renL_gc g hi)
 | tup cs vs hl _ ih =>
  intro a e; cases a <;> simp only [AV.ren, reduceCtorEq, AV.tup.injEq] at e
  subst e
  rw [renL_length] at hl
  exact .tup _ vs hl fun i hi => ih i (by rw [renL_length]; exact hi) _ (renL_gc g hi)
 | nilp => intro a e; cases a <;> simp only [AV.ren, reduceCtorEq] at e; exact .nilp
 | op id ver off ad hk h =>
  intro a e; cases a <;> simp only [AV.ren, reduceCtorEq, AV.op.injEq] at e
  obtain ⟨rfl, rfl, rfl⟩ := e
  have := hok _ _ hk
  exact .op _ _ _ _ this fun b hb => h b (hloc _ this.1 _ hb)
 | dp cells off b o vs hr _ ih =>
  intro a e; cases a <;> simp only [AV.ren, reduceCtorEq, AV.dp.injEq] at e
  obtain ⟨rfl, rfl⟩ := e
  rw [renL_length] at hr
  exact .dp _ _ b o vs (row hr) fun i hi => ih i (by rw [renL_length]; exact hi) _ (renL_gc g hi)
 | dsn t =>
  intro a e; cases a <;> simp only [AV.ren, reduceCtorEq, AV.ds.injEq] at e
  obtain ⟨rfl, e2, rfl, rfl⟩ := e
  rename_i cs
  have : cs = [] := List.length_eq_zero_iff.1 (by rw [← renL_length g, ← e2]; rfl)
  subst this; exact .dsn _
 | ds nl cells len t ad cap vs ha hr _ hc ht hB ih =>
  intro a e; cases a <;> simp only [AV.ren, reduceCtorEq, AV.ds.injEq] at e
  obtain ⟨rfl, rfl, rfl, rfl⟩ := e
  rw [renL_length] at hr
  exact .ds _ _ _ _ ad cap vs (by rcases ha with h | h; exact .inl (List.length_eq_zero_iff.1 (by rw [← renL_length g, h]; rfl)); exact .inr h) (row hr) (fun i hi => ih i (by rw [renL_length]; exact hi) _ (renL_gc g hi)) hc ht hB
 | osn sz id ver off t ad hk h =>
  intro a e; cases a <;> simp only [AV.ren, reduceCtorEq, AV.os.injEq] at e
  obtain ⟨rfl, rfl, rfl, rfl, rfl, rfl, rfl⟩ := e
  have := hok _ _ hk
  exact .osn _ _ _ _ _ _ this fun ob hb => h ob (hloc _ this.1 _ hb)
 | os nl sz id ver off len t ad cap hk hc ht hB h =>
  intro a e; cases a <;> simp only [AV.ren, reduceCtorEq, AV.os.injEq] at e
  obtain ⟨rfl, rfl, rfl, rfl, rfl, rfl, rfl⟩ := e
  have := hok _ _ hk
  refine .os _ _ _ _ _ _ _ ad cap this hc ht hB fun ob hb => ?_
  obtain ⟨b, e1, e2, t', m, hs, hm⟩ := h ob (hloc _ this.1 _ hb)
  exact ⟨b, e1, e2, t', m, by rw [hw]; exact hs, hm⟩
 | mp id b hk h =>
  intro a e; cases a <;> simp only [AV.ren, reduceCtorEq, AV.mp.injEq] at e
  subst e
  have := hok _ _ hk
  exact .mp _ b this fun ob hb => h ob (hloc _ this.1 _ hb)
 | nilm => intro a e; cases a <;> simp only [AV.ren, reduceCtorEq] at e; exact .nilm
 | fn f first cap vf vc hf hc _ _ i1 i2 =>
  intro a e; cases a <;> simp only [AV.ren, reduceCtorEq, AV.fn.injEq] at e
  obtain ⟨rfl, rfl, rfl⟩ := e
  rw [renL_length] at hf hc
  exact .fn _ _ _ vf vc hf hc (fun i hi => i1 i (by rw [renL_length]; exact hi) _ (renL_gc g hi)) (fun i hi => i2 i (by rw [renL_length]; exact hi) _ (renL_gc g hi))
 | nilF => intro a e; cases a <;> simp only [AV.ren, reduceCtorEq] at e; exact .nilF
 | ifc t x v _ ih =>
  intro a e; cases a <;> simp only [AV.ren, reduceCtorEq, AV.ifc.injEq] at e
  obtain ⟨rfl, e⟩ := e
  exact .ifc _ _ v (ih _ e)
 | nilI => intro a e; cases a <;> simp only [AV.ren, reduceCtorEq] at e; exact .nilI
 | it id b hk h =>
  intro a e; cases a <;> simp only [AV.ren, reduceCtorEq, AV.it.injEq] at e
  subst e
  have := hok _ _ hk
  exact .it _ b this fun ob hb => h ob (hloc _ this.1 _ hb)
 | gp n => intro a e; cases a <;> simp only [AV.ren, reduceCtorEq, AV.gp.injEq] at e; subst e; exact .gp _
def renO (g : Nat → Nat) : AObj → AObj
 | .cells ver cs => .cells ver (renL g cs)
 | .map es => .map (es.map fun e => (e.1.ren g, e.2.ren g))
 | .iter s p => .iter s p
 | .dead => .dead
def bigId (ids : List Nat) (base : Nat) (i : Nat) : Nat := (ids[i]?).getD (base + (i - ids.length))
def putAll (g : Nat → Nat) : List Nat → Store → Store → Store
 | id :: ids, o :: l, σ => putAll g ids l (σ.set id (renO g o))
 | _, l, σ => σ ++ l.map (renO g)
theorem putAll_spec (g : Nat → Nat) : ∀ (ids : List Nat) (l σ : Store), ids.length ≤ l.length → ids.Nodup → (∀ id ∈ ids, id < σ.length) →
 (putAll g ids l σ).length = σ.length + (l.length - ids.length) ∧ (∀ (i id : Nat), ids[i]? = some id → (putAll g ids l σ)[id]? = (l[i]?).map (renO g)) ∧
  (∀ (id : Nat), id < σ.length → id ∉ ids → (putAll g ids l σ)[id]? = σ[id]?) ∧ (∀ (j : Nat), (putAll g ids l σ)[σ.length + j]? = (l[ids.length + j]?).map (renO g)) := by
 intro ids
 induction ids with
 | nil =>
  intro l σ _ _ _
  have e : putAll g [] l σ = σ ++ l.map (renO g) := by cases l <;> rfl
  rw [e]
  refine ⟨by simp, fun i id h => by simp at h, fun id h _ => by rw [List.getElem?_append_left h], fun j => ?_⟩
  rw [List.getElem?_append_right (by omega)]
  simp
 | cons x ids ih =>
  intro l σ hl hn hlt
  cases l with
  | nil => simp at hl
  | cons o l =>
   obtain ⟨hn1, hn2⟩ := List.nodup_cons.1 hn
   have hx := hlt x (by simp)
   obtain ⟨h1, h2, h3, h4⟩ := ih l (σ.set x (renO g o)) (by simpa using hl) hn2 (fun id hid => by simpa using hlt id (by simp [hid]))
   simp only [putAll]
   simp only [List.length_set] at h1 h3 h4
   refine ⟨by simp only [List.length_cons]; omega, fun i id h => ?_, fun id h hm => ?_, fun j => ?_⟩
   · cases i with
     | zero =>
      simp only [List.getElem?_cons_zero, Option.some.injEq] at h
      subst h
      rw [h3 x hx hn1, List.getElem?_set_self hx]; simp
     | succ i =>
      rw [List.getElem?_cons_succ] at h
      rw [h2 i id h]; simp
   · rw [h3 id h (fun e => hm (by simp [e])), List.getElem?_set_ne (fun e => hm (by simp [e]))]
   · rw [h4 j]
     have : (x :: ids).length + j = (ids.length + j) + 1 := by simp; omega
     rw [this, List.getElem?_cons_succ]
theorem ObjR.renum {E E' : Env} {g : Nat → Nat} (hw : E'.w = E.w) (hst : ∀ b, E.st b → E'.st b) (hok : ∀ id ver, E.ok id ver → E'.ok (g id) ver) (hloc : ∀ id, id < E.n → ∀ p, E'.loc (g id) = some p → E.loc id = some p)
 {i : Nat} {o : AObj} (hl : E'.loc (g i) = E.loc i) (h : ObjR E i (some o)) : ObjR E' (g i) (some (renO g o)) := by
 cases o with
 | cells ver cs =>
  rcases h with ⟨b, h1, h2⟩ | ⟨h1, h2⟩
  · refine .inl ⟨b, hl.trans h1, ?_⟩
    obtain ⟨conc, t, fr, a1, a2, a3, a4⟩ := h2.blk
    exact ⟨conc, t, fr, by rw [hw]; exact a1, a2, by rw [renL_length]; exact a3, fun j hj => by rw [renL_length] at hj; rw [renL_gc g hj]; exact VR.renum hw hst hok hloc (a4 j hj)⟩
  · exact .inr ⟨by rw [h1]; rfl, hl.trans h2⟩
 | map es =>
  obtain ⟨b, ents, clock, h1, h2, h3, h4⟩ := h
  refine ⟨b, ents, clock, hl.trans h1, by rw [hw]; exact h2, by rw [List.length_map]; exact h3, fun j h h' => ?_⟩
  rw [List.length_map] at h
  simp only [List.getElem_map]
  exact ⟨VR.renum hw hst hok hloc (h4 j h h').1, VR.renum hw hst hok hloc (h4 j h h').2⟩
 | iter s p => obtain ⟨b, h1, h2⟩ := h; exact ⟨b, hl.trans h1, by rw [hw]; exact h2⟩
 | dead => exact hl.trans h
theorem ObjR.unren {E E' : Env} {g : Nat → Nat} (hw : E.w = E'.w) (hst : ∀ b, E'.st b → E.st b) (hok : ∀ id ver, E'.ok (g id) ver → E.ok id ver) (hloc : ∀ id, id < E.n → ∀ p, E.loc id = some p → E'.loc (g id) = some p)
 {i : Nat} {o : AObj} (hl : E.loc i = E'.loc (g i)) (h : ObjR E' (g i) (some (renO g o))) : ObjR E i (some o) := by
 cases o with
 | cells ver cs =>
  rcases h with ⟨b, h1, h2⟩ | ⟨h1, h2⟩
  · refine .inl ⟨b, hl.trans h1, ?_⟩
    obtain ⟨conc, t, fr, a1, a2, a3, a4⟩ := h2.blk
    rw [renL_length] at a3 a4
    exact ⟨conc, t, fr, by rw [hw]; exact a1, a2, a3, fun j hj => VR.unren hw hst hok hloc (a4 j hj) _ (renL_gc g hj)⟩
  · exact .inr ⟨List.length_eq_zero_iff.1 (by rw [← renL_length g, h1]; rfl), hl.trans h2⟩
 | map es =>
  obtain ⟨b, ents, clock, h1, h2, h3, h4⟩ := h
  rw [List.length_map] at h3
  refine ⟨b, ents, clock, hl.trans h1, by rw [hw]; exact h2, h3, fun j h h' => ?_⟩
  have := h4 j (by simpa using h) h'
  simp only [List.getElem_map] at this
  exact ⟨VR.unren hw hst hok hloc this.1 _ rfl, VR.unren hw hst hok hloc this.2 _ rfl⟩
 | iter s p => obtain ⟨b, h1, h2⟩ := h; exact ⟨b, hl.trans h1, by rw [hw]; exact h2⟩
 | dead => exact hl.trans h
theorem ACalls.embed {P : Program} {f : FuncId} {args : List AV} {σs : Store} {R : AV → Store → Prop} (h : ACalls P f args σs R) {σ : Store} (ids : List Nat) (hn : ids.Nodup) (hlt : ∀ id ∈ ids, id < σ.length)
 (hobj : ids.map (fun id => σ[id]?) = σs.map fun o => some (renO (bigId ids σ.length) o)) {args' : List AV} (ha : renL (bigId ids σ.length) args = args') :
 ACalls P f args' σ fun r' σ' => ∃ r τ, R r τ ∧ r' = r.ren (bigId ids σ.length) ∧ σ' = putAll (bigId ids σ.length) ids τ σ := by
 refine ⟨h.1, fun E vs hS hl => ?_⟩
 have hlen : σs.length = ids.length := by have := congrArg List.length hobj; simpa using this.symm
 generalize hg : bigId ids σ.length = g at *
 have g1 : ∀ i id, ids[i]? = some id → g i = id := fun i id h => by rw [← hg]; simp [bigId, h]
 have g2 : ∀ i, ids.length ≤ i → g i = σ.length + (i - ids.length) := fun i h => by rw [← hg]; simp [bigId, h]
 have g3 : ∀ i, i < ids.length → ids[i]? = some (g i) := fun i h => by
  have : ids[i]? = some ids[i] := List.getElem?_eq_getElem h
  rw [this, g1 i _ this]
 have gin : ∀ i, i < ids.length → g i ∈ ids := fun i h => List.mem_of_getElem? (g3 i h)
 let Es : Env := { w := E.w, st := E.st, loc := fun i => if i < ids.length then E.loc (g i) else none, n := ids.length }
 have hok : ∀ id ver, E.ok (g id) ver → Es.ok id ver := fun id ver h => by
  have hid : id < ids.length := by
   rcases Nat.lt_or_ge id ids.length with h1 | h1
   · exact h1
   · have := g2 id h1; have h2 := h.1; have := hS.len; omega
  exact ⟨hid, fun v ob hb => h.2 v ob (by simpa [Es, hid] using hb)⟩
 have hloc : ∀ id, id < Es.n → ∀ p, Es.loc id = some p → E.loc (g id) = some p := fun id hid p hp => by
  have hid' : id < ids.length := hid
  simpa [Es, hid'] using hp
 have hSs : SR Es σs := by
  refine ⟨hlen, fun i => ?_, fun i i' v v' b h1 h2 => ?_, fun i v b h1 => ?_, hS.stb, hS.glb⟩
  · by_cases hi : i < ids.length
    · have hsi : σs[i]? = some (σs[i]'(by omega)) := List.getElem?_eq_getElem (by omega)
      rw [hsi]
      have h1 : (ids.map fun id => σ[id]?)[i]? = (σs.map fun o => some (renO g o))[i]? := by rw [hobj]
      rw [List.getElem?_map, List.getElem?_map, g3 i hi, hsi] at h1
      simp only [Option.map_some, Option.some.injEq] at h1
      have h2 := hS.obj (g i)
      rw [h1] at h2
      exact ObjR.unren (E := Es) (E' := E) rfl (fun _ h => h) hok hloc (by simp [Es, hi]) h2
    · rw [List.getElem?_eq_none (by omega)]
      show Es.loc i = none
      simp [Es, hi]
  · have h1' : i < ids.length ∧ E.loc (g i) = some (v, some b) := by
     by_cases hi : i < ids.length
     · exact ⟨hi, by simpa [Es, hi] using h1⟩
     · simp [Es, hi] at h1
    have h2' : i' < ids.length ∧ E.loc (g i') = some (v', some b) := by
     by_cases hi : i' < ids.length
     · exact ⟨hi, by simpa [Es, hi] using h2⟩
     · simp [Es, hi] at h2
    have := hS.inj _ _ _ _ _ h1'.2 h2'.2
    have e1 := g3 i h1'.1
    have e2 := g3 i' h2'.1
    rw [this] at e1
    exact (List.getElem?_inj h1'.1 hn).1 (e1.trans e2.symm)
  · by_cases hi : i < ids.length
    · exact hS.blk (g i) v b (by simpa [Es, hi] using h1)
    · simp [Es, hi] at h1
 have hls : ListR Es args vs.toList := by
  have h1 : args'.length = args.length := by rw [← ha, renL_length]
  refine ⟨by rw [hl.1, h1], fun i hi => ?_⟩
  have := hl.2 i (by omega)
  exact VR.unren (E := Es) (E' := E) rfl (fun _ h => h) hok hloc this _ (by rw [← ha, renL_gc g hi])
 refine (h.2 Es vs hSs hls).mono ?_
 rintro e w ⟨v, r, τ, E1, rfl, rfl, h3, h4, h5, hR⟩
 have hn1 : ids.length ≤ E1.n := h5.n
 have hτ : τ.length = E1.n := h4.len
 obtain ⟨p1, p2, p3, p4⟩ := putAll_spec g ids τ σ (by omega) hn hlt
 let loc2 : Nat → Option (Nat × Option Nat) := fun id =>
  match idxOf ids id 0 with
  | some i => E1.loc i
  | none => if id < E.n then E.loc id else E1.loc (ids.length + (id - E.n))
 let E2 : Env := { w := E1.w, st := E1.st, loc := loc2, n := E.n + (E1.n - ids.length) }
 have idx : ∀ i, i < ids.length → idxOf ids (g i) 0 = some i := fun i hi => idxOf_get hn (g3 i hi)
 have noidx : ∀ id, id ∉ ids → idxOf ids id 0 = none := fun id h => by
  cases hq : idxOf ids id 0 with
  | none => rfl
  | some j =>
   obtain ⟨_, h2⟩ := idxOf_spec ids id 0 j hq
   rw [Nat.sub_zero] at h2
   exact absurd (List.mem_of_getElem? h2) h
 have l1 : ∀ i, E2.loc (g i) = E1.loc i := fun i => by
  rcases Nat.lt_or_ge i ids.length with hi | hi
  · simp only [E2, loc2, idx i hi]
  · have e := g2 i hi
    have hnot : g i ∉ ids := fun hm => by have := hlt _ hm; omega
    have hge : ¬ g i < E.n := by have := hS.len; omega
    simp only [E2, loc2, noidx _ hnot, if_neg hge]
    congr 1
    have := hS.len; omega
 have l2 : ∀ id, id < E.n → id ∉ ids → E2.loc id = E.loc id := fun id h1 h2 => by simp only [E2, loc2, noidx _ h2, if_pos h1]
 have rev : ∀ id, (id < E.n ∧ id ∉ ids) ∨ (∃ i, id = g i) := fun id => by
  by_cases hm : id ∈ ids
  · obtain ⟨i, hi, rfl⟩ := List.getElem_of_mem hm
    exact .inr ⟨i, (g1 i _ (List.getElem?_eq_getElem hi)).symm⟩
  · by_cases hlt' : id < E.n
    · exact .inl ⟨hlt', hm⟩
    · refine .inr ⟨ids.length + (id - E.n), ?_⟩
      rw [g2 _ (by omega)]; have := hS.len; omega
 have grange : ∀ i, i < E1.n → g i < E2.n := fun i hi => by
  show g i < E.n + (E1.n - ids.length)
  rcases Nat.lt_or_ge i ids.length with h | h
  · have := hlt _ (gin i h); have := hS.len; omega
  · have := g2 i h; have := hS.len; omega
 have hok2 : ∀ id ver, E1.ok id ver → E2.ok (g id) ver := fun id ver h => ⟨grange id h.1, fun v ob hb => h.2 v ob (by rw [← l1 id]; exact hb)⟩
 have hloc2 : ∀ id, id < E1.n → ∀ p, E2.loc (g id) = some p → E1.loc id = some p := fun id _ p hp => by rw [← l1 id]; exact hp
 -- what the call was not lent
 have esown : ∀ i v b, Es.loc i = some (v, some b) → i < ids.length ∧ E.loc (g i) = some (v, some b) := fun i v b h => by
  by_cases hi : i < ids.length
  · exact ⟨hi, by simpa [Es, hi] using h⟩
  · simp [Es, hi] at h
 have kept : ∀ b, b < E.w.heap.size → (∀ i v, i < ids.length → E.loc (g i) ≠ some (v, some b)) → E1.w.heap[b]? = E.w.heap[b]? := fun b hb hno =>
  h5.old b hb fun i v h => (hno i v (esown i v b h).1) (esown i v b h).2
 have notlent : ∀ id v b, id < E.n → id ∉ ids → E.loc id = some (v, some b) → ∀ i v', i < ids.length → E.loc (g i) ≠ some (v', some b) := fun id v b h1 h2 hl i v' hi hc => by
  have := hS.inj _ _ _ _ _ hl hc
  subst this
  exact h2 (gin i hi)
 have hext : Ext E E2 := {
  os := h5.os
  tape := h5.tape
  output := h5.output
  size := h5.size
  shape := h5.shape
  st := fun b hb => h5.st b hb
  n := Nat.le_add_right _ _
  loc := fun id hid ver ob hl => by
   by_cases hm : id ∈ ids
   · obtain ⟨i, hi, rfl⟩ := List.getElem_of_mem hm
     have hgi := g1 i _ (List.getElem?_eq_getElem hi)
     rw [← hgi, l1] at hl
     obtain ⟨v0, o0, e1, e2, e3⟩ := h5.loc i hi ver ob hl
     refine ⟨v0, o0, ?_, e2, e3⟩
     rw [← hgi]; simpa [Es, hi] using e1
   · rw [l2 id hid hm] at hl
     exact ⟨ver, ob, hl, Nat.le_refl _, fun _ => rfl⟩
  old := fun b hb hno => kept b hb fun i v _ => hno (g i) v
  own := fun id v b hl hb => by
   rcases rev id with ⟨h1, h2⟩ | ⟨i, rfl⟩
   · rw [l2 id h1 h2] at hl; exact ⟨id, v, hl⟩
   · rw [l1] at hl
     obtain ⟨i', v', e1⟩ := h5.own i v b hl hb
     exact ⟨g i', v', (esown i' v' b e1).2⟩
  stn := fun b hb => by
   rcases h5.stn b hb with h | h | ⟨i, v, h⟩
   · exact .inl h
   · exact .inr (.inl h)
   · exact .inr (.inr ⟨g i, v, (esown i v b h).2⟩) }
 refine ⟨v, _, _, E2, rfl, rfl, VR.renum (E := E1) (E' := E2) rfl (fun _ h => h) hok2 hloc2 h3, ?_, hext, r, τ, hR, rfl, rfl⟩
 refine ⟨by rw [p1, hτ, hS.len], fun id => ?_, fun id id' v v' b h1 h2 => ?_, fun id v b h1 => ?_, fun b hb => h4.stb b hb, h4.glb⟩
 · rcases rev id with ⟨h1, h2⟩ | ⟨i, rfl⟩
   · rw [p3 id (by rw [hS.len]; exact h1) h2]
     exact (hS.obj id).ext hext (l2 id h1 h2) fun v b hb => kept b (hS.blk id v b hb).1 (notlent id v b h1 h2 hb)
   · have hg' : (putAll g ids τ σ)[g i]? = (τ[i]?).map (renO g) := by
      rcases Nat.lt_or_ge i ids.length with hi | hi
      · exact p2 i _ (g3 i hi)
      · rw [g2 i hi, p4]
        congr 2; omega
     rw [hg']
     cases ht : τ[i]? with
     | none =>
      have := h4.obj i
      rw [ht] at this
      show E2.loc (g i) = none
      rw [l1]; exact this
     | some o =>
      have := h4.obj i
      rw [ht] at this
      exact ObjR.renum (E := E1) (E' := E2) rfl (fun _ h => h) hok2 hloc2 (l1 i) this
 · have mixed : ∀ id i v v' b, id < E.n → id ∉ ids → E.loc id = some (v, some b) → E1.loc i = some (v', some b) → False := fun id i v v' b h1 h2 hl hi => by
    have hb := (hS.blk id v b hl).1
    obtain ⟨i', v2, e1⟩ := h5.own i v' b hi hb
    obtain ⟨e2, e3⟩ := esown i' v2 b e1
    exact notlent id v b h1 h2 hl i' v2 e2 e3
   rcases rev id with ⟨a1, a2⟩ | ⟨i, rfl⟩
   · rw [l2 id a1 a2] at h1
     rcases rev id' with ⟨b1, b2⟩ | ⟨i', rfl⟩
     · rw [l2 id' b1 b2] at h2; exact hS.inj _ _ _ _ _ h1 h2
     · rw [l1] at h2; exact (mixed _ _ _ _ _ a1 a2 h1 h2).elim
   · rw [l1] at h1
     rcases rev id' with ⟨b1, b2⟩ | ⟨i', rfl⟩
     · rw [l2 id' b1 b2] at h2; exact (mixed _ _ _ _ _ b1 b2 h2 h1).elim
     · rw [l1] at h2; rw [h4.inj _ _ _ _ _ h1 h2]
 · rcases rev id with ⟨a1, a2⟩ | ⟨i, rfl⟩
   · rw [l2 id a1 a2] at h1
     refine ⟨Nat.lt_of_lt_of_le (hS.blk id v b h1).1 h5.size, fun hs => ?_⟩
     rcases h5.stn b hs with h | h | ⟨i, v', h⟩
     · exact (hS.blk id v b h1).2 h
     · exact Nat.lt_irrefl _ (Nat.lt_of_lt_of_le (hS.blk id v b h1).1 h)
     · exact notlent id v b a1 a2 h1 i v' (esown i v' b h).1 (esown i v' b h).2
   · rw [l1] at h1
     exact h4.blk i v b h1
section
variable {P : Program} {n k : Nat} {Q : Exit → Fr → Store → Prop} {F : Fr} {σ : Store}
end
end AM
end Go.Proofs.YtaddlmlpeghonaaDoor
