import Derived.Test.YtaddlmlpeghonaaDoorUBk
set_option linter.unusedSimpArgs false
set_option linter.unusedVariables false
set_option linter.constructorNameAsVariable false
namespace Go.Proofs.YtaddlmlpeghonaaDoor
namespace AM
open Go.RowKit
mutual
def AV.canon (s : Bool) : AV → Bool
 | .u => true
 | .bool _ | .int _ _ | .str _ | .nilp | .nilm | .nilF | .nilI | .gp _ => true
 | .agg cs => canonL s cs
 | .tup cs => canonL s cs
 | .dp cs _ => canonL s cs
 | .ds nl cs _ t => (!s || (nl && !t)) && canonL s cs
 | .fn _ a b => canonL s a && canonL s b
 | .ifc _ a => a.canon s
 | .op _ _ _ | .os _ _ _ _ _ _ _ | .mp _ | .it _ => false
def canonL (s : Bool) : List AV → Bool
 | [] => true
 | a :: l => a.canon s && canonL s l
end
mutual
def AV.flat : AV → Bool
 | .u => true
 | .bool _ | .int _ _ | .str _ | .nilp | .nilm | .nilF | .nilI | .gp _ => true
 | .agg cs => flatL cs
 | .tup cs => flatL cs
 | .ifc _ a => a.flat
 | _ => false
def flatL : List AV → Bool
 | [] => true
 | a :: l => a.flat && flatL l
end
theorem canonL_append (s : Bool) (l m : List AV) : canonL s (l ++ m) = (canonL s l && canonL s m) := by
 induction l with
 | nil => simp [canonL]
 | cons a l ih => simp [canonL, ih, Bool.and_assoc]
theorem canonL_flatMap {α : Type} (s : Bool) (f : α → List AV) (h : ∀ x, canonL s (f x) = true) (l : List α) : canonL s (l.flatMap f) = true := by
 induction l with
 | nil => rfl
 | cons x l ih => rw [List.flatMap_cons, canonL_append, h, ih]; rfl
def idxOf : List Nat → Nat → Nat → Option Nat
 | [], _, _ => none
 | x :: l, id, j => if x = id then some j else idxOf l id (j + 1)
def tell (σ : Store) (keep : List Nat) (ls : Bool) : Nat → AV → AV
 | 0, a => bif a.canon ls then a else .u
 | f + 1, a =>
  match a with
  | .agg cs => .agg (cs.map (tell σ keep ls f))
  | .tup cs => .tup (cs.map (tell σ keep ls f))
  | .op id ver off => match idxOf keep id 0 with
   | some j => .op j ver off
   | none => match Store.at σ id ver with
    | some (c :: cs) => .dp ((c :: cs).map (tell σ keep ls f)) off
    | _ => .u
  | .os nl sz id ver off len t => match idxOf keep id 0 with
   | some j => .os nl sz j ver off len t
   | none => match Store.at σ id ver with
    | some cs => if off + len * sz ≤ cs.length then .ds true (((cs.drop off).take (len * sz)).map (tell σ keep ls f)) len false else .u
    | none => .u
  | .dp cs off => .dp (cs.map (tell σ keep ls f)) off
  | .ds nl cs len t => .ds (nl || ls) (cs.map (tell σ keep ls f)) len (t && !ls)
  | .fn g a b => .fn g (a.map (tell σ keep ls f)) (b.map (tell σ keep ls f))
  | .ifc t a => .ifc t (tell σ keep ls f a)
  | .mp id => match idxOf keep id 0 with
   | some j => .mp j
   | none => .u
  | .it id => match idxOf keep id 0 with
   | some j => .it j
   | none => .u
  | .u => .u
  | .bool b => .bool b
  | .int k n => .int k n
  | .str s => .str s
  | .nilp => .nilp
  | .nilm => .nilm
  | .nilF => .nilF
  | .nilI => .nilI
  | .gp g => .gp g
def tellObj (σ : Store) (keep : List Nat) (ls : Bool) (f : Nat) : AObj → AObj
 | .cells ver cs => .cells ver (cs.map (tell σ keep ls f))
 | .map es => .map (es.map fun e => (tell σ keep ls f e.1, tell σ keep ls f e.2))
 | .iter s p => .iter s p
 | .dead => .dead
def tellS (σ : Store) (keep : List Nat) (ls : Bool) (f : Nat) : Store := keep.map fun id => tellObj σ keep ls f (σ.getD id .dead)
mutual
theorem tell_canon (σ : Store) (keep : List Nat) (ls : Bool) : ∀ (a : AV) (f : Nat), a.canon ls = true → tell σ keep ls f a = a
 | a, 0, h => by simp [tell, h]
 | .u, f + 1, h => rfl
 | .bool _, f + 1, h => rfl
 | .int _ _, f + 1, h => rfl
 | .str _, f + 1, h => rfl
 | .nilp, f + 1, h => rfl
 | .nilm, f + 1, h => rfl
 | .nilF, f + 1, h => rfl
 | .nilI, f + 1, h => rfl
 | .gp _, f + 1, h => rfl
 | .agg cs, f + 1, h => by simp only [AV.canon] at h; simp only [tell, tell_canonL σ keep ls cs f h]
 | .tup cs, f + 1, h => by simp only [AV.canon] at h; simp only [tell, tell_canonL σ keep ls cs f h]
 | .dp cs _, f + 1, h => by simp only [AV.canon] at h; simp only [tell, tell_canonL σ keep ls cs f h]
 | .ds nl cs _ t, f + 1, h => by
  simp only [AV.canon, Bool.and_eq_true, Bool.or_eq_true, Bool.not_eq_true'] at h
  obtain ⟨h1, h2⟩ := h
  simp only [tell, tell_canonL σ keep ls cs f h2]
  rcases h1 with rfl | ⟨rfl, rfl⟩ <;> simp
 | .fn _ a b, f + 1, h => by
  simp only [AV.canon, Bool.and_eq_true] at h
  simp only [tell, tell_canonL σ keep ls a f h.1, tell_canonL σ keep ls b f h.2]
 | .ifc _ a, f + 1, h => by simp only [AV.canon] at h; simp only [tell, tell_canon σ keep ls a f h]
theorem tell_canonL (σ : Store) (keep : List Nat) (ls : Bool) : ∀ (l : List AV) (f : Nat), canonL ls l = true → l.map (tell σ keep ls f) = l
 | [], _, _ => rfl
 | a :: l, f, h => by
  simp only [canonL, Bool.and_eq_true] at h
  rw [List.map_cons, tell_canon σ keep ls a f h.1, tell_canonL σ keep ls l f h.2]
end
theorem idxOf_spec : ∀ (l : List Nat) (id j i : Nat), idxOf l id j = some i → j ≤ i ∧ l[i - j]? = some id := by
 intro l
 induction l with
 | nil => intro id j i h; cases h
 | cons x l ih =>
  intro id j i h
  simp only [idxOf] at h
  split at h
  · rename_i hx; cases h; subst hx; simp
  · obtain ⟨h1, h2⟩ := ih id (j + 1) i h
    refine ⟨by omega, ?_⟩
    rw [show i - j = (i - (j + 1)) + 1 by omega, List.getElem?_cons_succ]; exact h2
theorem idxOf_none : ∀ (l : List Nat) (id j : Nat), idxOf l id j = none → id ∉ l := by
 intro l
 induction l with
 | nil => intro id j _ h; cases h
 | cons x l ih =>
  intro id j h hm
  simp only [idxOf] at h
  split at h
  · cases h
  · rename_i hx
    rcases List.mem_cons.1 hm with h1 | h1
    · exact hx h1.symm
    · exact ih id (j + 1) h h1
theorem idxOf_get {l : List Nat} (hn : l.Nodup) {i id : Nat} (h : l[i]? = some id) : idxOf l id 0 = some i := by
 cases hq : idxOf l id 0 with
 | none => exact absurd (List.mem_of_getElem? h) (idxOf_none l id 0 hq)
 | some j =>
  obtain ⟨_, h2⟩ := idxOf_spec l id 0 j hq
  rw [Nat.sub_zero] at h2
  have h3 : i < l.length := (List.getElem?_eq_some_iff.1 h).1
  congr 1
  exact ((List.getElem?_inj h3 hn).1 (h.trans h2.symm)).symm
def Env.ren (E : Env) (keep : List Nat) : Env where
 w := E.w
 st := fun b => E.st b ∨ ∃ id v, id ∉ keep ∧ E.loc id = some (v, some b)
 loc := fun j => (keep[j]?).bind E.loc
 n := keep.length
theorem Env.ren_loc {E : Env} {keep : List Nat} {j : Nat} {p : Nat × Option Nat} (h : (E.ren keep).loc j = some p) : ∃ id, keep[j]? = some id ∧ E.loc id = some p := by
 simp only [Env.ren] at h
 cases hk : keep[j]? with
 | none => rw [hk] at h; cases h
 | some id => rw [hk] at h; exact ⟨id, rfl, h⟩
theorem ExtK.ren {E : Env} {keep : List Nat} {k : Nat} (hst : ∀ b, E.st b → b < E.w.heap.size) (hk : keep.take k = List.range k) : ExtK k E (E.ren keep) where
 os := rfl
 tape := rfl
 output := rfl
 size := Nat.le_refl _
 shape := fun _ _ h => h
 st := fun b hb => ⟨.inl hb, rfl⟩
 n := by
  have := congrArg List.length hk
  simp only [List.length_take, List.length_range] at this
  show k ≤ keep.length; omega
 loc := fun id hid ver ob h => by
  obtain ⟨i, h1, h2⟩ := Env.ren_loc h
  have : keep[id]? = some id := by
   have h3 : (keep.take k)[id]? = keep[id]? := by rw [List.getElem?_take]; simp [hid]
   rw [← h3, hk]; simp [hid]
  rw [h1] at this
  cases this
  exact ⟨ver, ob, h2, Nat.le_refl _, fun _ => rfl⟩
 old := fun _ _ _ => rfl
 own := fun id v b h _ => by obtain ⟨i, _, h2⟩ := Env.ren_loc h; exact ⟨i, v, h2⟩
 stn := fun b h => by
  rcases h with h | ⟨id, v, _, h⟩
  · exact .inl h
  · exact .inr (.inr ⟨id, v, h⟩)
theorem Row.ren {E : Env} {keep : List Nat} {b o m : Nat} {vs : Nat → Value} (h : Row E.w E.st b o m vs) : Row E.w (E.ren keep).st b o m vs := by
 rcases h with h | ⟨h1, h2⟩
 · exact .inl h
 · exact .inr ⟨.inl h1, h2⟩
theorem Env.ok.ren {E : Env} {keep : List Nat} {id ver j : Nat} (h : E.ok id ver) (hj : keep[j]? = some id) : (E.ren keep).ok j ver := by
 refine ⟨(List.getElem?_eq_some_iff.1 hj).1, fun v ob hl => ?_⟩
 obtain ⟨i, h1, h2⟩ := Env.ren_loc hl
 rw [hj] at h1; cases h1
 exact h.2 v ob h2
theorem gc_map' {f : AV → AV} {l : List AV} {i : Nat} (h : i < l.length) : gc (l.map f) i = f (gc l i) := by
 simp [gc, h]
mutual
theorem VR.canonRen {E E' : Env} {s : Bool} (hw : E'.w = E.w) (hst : ∀ b, E.st b → E'.st b) : ∀ (a : AV) {v : Value}, a.canon s = true → VR E a v → VR E' a v
 | .u, _, _, h => .u _
 | .bool _, _, _, h => by cases h; exact .bool _
 | .int _ _, _, _, h => by cases h; exact .int _ _
 | .str _, _, _, h => by cases h with | str _ s h => exact .str _ _ h
 | .nilp, _, _, h => by cases h; exact .nilp
 | .nilm, _, _, h => by cases h; exact .nilm
 | .nilF, _, _, h => by cases h; exact .nilF
 | .nilI, _, _, h => by cases h; exact .nilI
 | .gp _, _, _, h => by cases h; exact .gp _
 | .agg cs, _, hc, h => by
  cases h with | agg _ vs hl hv => exact .agg _ vs hl fun i hi => VR.canonRenL hw hst cs (by simpa [AV.canon] using hc) i hi (hv i hi)
 | .tup cs, _, hc, h => by
  cases h with | tup _ vs hl hv => exact .tup _ vs hl fun i hi => VR.canonRenL hw hst cs (by simpa [AV.canon] using hc) i hi (hv i hi)
 | .dp cs off, _, hc, h => by
  cases h with | dp _ _ b o vs hr hv =>
  refine .dp _ off b o vs ?_ fun i hi => VR.canonRenL hw hst cs (by simpa [AV.canon] using hc) i hi (hv i hi)
  rcases hr with hr | ⟨h1, h2⟩
  · exact .inl hr
  · exact .inr ⟨hst _ h1, by rw [hw]; exact h2⟩
 | .ds nl cs len t, _, hc, h => by
  have hc' : canonL s cs = true := by simp only [AV.canon, Bool.and_eq_true] at hc; exact hc.2
  cases h with
  | dsn => exact .dsn _
  | ds _ _ _ _ a cap vs ha hr hv hcap ht hB =>
   refine .ds _ _ _ _ a cap vs ha ?_ (fun i hi => VR.canonRenL hw hst cs hc' i hi (hv i hi)) hcap ht hB
   rcases hr with hr | ⟨h1, h2⟩
   · exact .inl hr
   · exact .inr ⟨hst _ h1, by rw [hw]; exact h2⟩
 | .fn f a b, _, hc, h => by
  simp only [AV.canon, Bool.and_eq_true] at hc
  cases h with | fn _ _ _ vf vc hf hcc h1 h2 =>
  exact .fn f a b vf vc hf hcc (fun i hi => VR.canonRenL hw hst a hc.1 i hi (h1 i hi)) (fun i hi => VR.canonRenL hw hst b hc.2 i hi (h2 i hi))
 | .ifc t a, _, hc, h => by
  cases h with | ifc _ _ v h => exact .ifc t a v (VR.canonRen hw hst a (by simpa [AV.canon] using hc) h)
theorem VR.canonRenL {E E' : Env} {s : Bool} (hw : E'.w = E.w) (hst : ∀ b, E.st b → E'.st b) : ∀ (cs : List AV) (hc : canonL s cs = true) (i : Nat) (hi : i < cs.length) {v : Value}, VR E (gc cs i) v → VR E' (gc cs i) v
 | [], _, _, hi, _, _ => absurd hi (by simp)
 | a :: cs, hc, 0, _, _, h => by
  simp only [canonL, Bool.and_eq_true] at hc
  exact VR.canonRen hw hst a hc.1 h
 | a :: cs, hc, i + 1, hi, _, h => by
  simp only [canonL, Bool.and_eq_true] at hc
  have e : gc (a :: cs) (i + 1) = gc cs i := by simp [gc]
  rw [e] at h ⊢
  exact VR.canonRenL hw hst cs hc.2 i (by simpa using hi) h
end
theorem VR.tell {E : Env} {σ : Store} (hS : SR E σ) {keep : List Nat} {ls : Bool} : ∀ (f : Nat) (a : AV) {v : Value}, VR E a v → VR (E.ren keep) (tell σ keep ls f a) v := by
 intro f
 induction f with
 | zero =>
  intro a v h
  simp only [AM.tell]
  cases hc : a.canon ls with
  | true => exact VR.canonRen (E := E) (E' := E.ren keep) rfl (fun b hb => Or.inl hb) a hc h
  | false => exact .u _
 | succ f ih =>
  have lst : ∀ (cs : List AV) (vs : Nat → Value), (∀ i, i < cs.length → VR E (gc cs i) (vs i)) → ∀ i, i < (cs.map (AM.tell σ keep ls f)).length → VR (E.ren keep) (gc (cs.map (AM.tell σ keep ls f)) i) (vs i) := by
   intro cs vs h i hi
   rw [List.length_map] at hi
   rw [gc_map' hi]; exact ih _ (h i hi)
  intro a v h
  cases h with
  | u v => exact .u _
  | bool b => exact .bool _
  | int k n => exact .int _ _
  | str l s h => exact .str _ _ h
  | agg cs vs hl h => exact .agg _ vs (by simpa using hl) (lst cs _ h)
  | tup cs vs hl h => exact .tup _ vs (by simpa using hl) (lst cs _ h)
  | nilp => exact .nilp
  | op id ver off a hk h =>
   simp only [AM.tell]
   cases hi : idxOf keep id 0 with
   | some j =>
    obtain ⟨_, h2⟩ := idxOf_spec _ _ _ _ hi
    rw [Nat.sub_zero] at h2
    refine .op _ _ _ _ (hk.ren h2) fun b hb => ?_
    obtain ⟨i, e1, e2⟩ := Env.ren_loc hb
    rw [h2] at e1; cases e1
    exact h b e2
   | none =>
    cases hcs : Store.at σ id ver with
    | none => exact .u _
    | some cs =>
     cases cs with
     | nil => exact .u _
     | cons c cs =>
      obtain ⟨b, hl, hb⟩ := hS.block_of hcs (show 0 < (c :: cs).length by simp)
      have := h b hl
      subst this
      obtain ⟨vs, hvs⟩ : ∃ vs : Nat → Value, ∀ i, i < (c :: cs).length → E.w.cell? ⟨b, i, none⟩ = some (vs i) ∧ VR E (gc (c :: cs) i) (vs i) := by
       have : ∀ i, ∃ v, i < (c :: cs).length → E.w.cell? ⟨b, i, none⟩ = some v ∧ VR E (gc (c :: cs) i) v := fun i => by
        by_cases hi : i < (c :: cs).length
        · obtain ⟨v, hv⟩ := hb.cell i hi; exact ⟨v, fun _ => hv⟩
        · exact ⟨undef, fun h => absurd h hi⟩
       exact Classical.skolem.1 this
      have := VR.dp (E := E.ren keep) ((c :: cs).map (AM.tell σ keep ls f)) off b 0 vs (.inr ⟨.inr ⟨id, ver, idxOf_none _ _ _ hi, hl⟩, fun i hi => by
       rw [List.length_map] at hi
       rw [Nat.zero_add]; exact (hvs i hi).1⟩) (lst _ _ fun i hi => (hvs i hi).2)
      simpa using this
  | dp cells off b o vs hr h => exact .dp _ off b o vs (by rw [List.length_map]; exact hr.ren) (lst _ _ h)
  | dsn t =>
   simp only [AM.tell, Bool.true_or, List.map_nil]
   exact .dsn _
  | ds nl cells len t a cap vs ha hr h hc ht hB =>
   exact .ds _ _ _ _ a cap vs (by rcases ha with h | h; exact .inl (by rw [h]; rfl); exact .inr h) (by rw [List.length_map]; exact hr.ren) (lst _ _ h) hc (fun e => ht (by simp only [Bool.and_eq_true] at e; exact e.1)) hB
  | osn sz id ver off t a hk h =>
   simp only [AM.tell]
   cases hi : idxOf keep id 0 with
   | some j =>
    obtain ⟨_, h2⟩ := idxOf_spec _ _ _ _ hi
    rw [Nat.sub_zero] at h2
    refine .osn _ _ _ _ _ _ (hk.ren h2) fun ob hb => ?_
    obtain ⟨i, e1, e2⟩ := Env.ren_loc hb
    rw [h2] at e1; cases e1
    exact h ob e2
   | none =>
    cases hcs : Store.at σ id ver with
    | none => exact .u _
    | some cs =>
     simp only
     split
     · have e : ((cs.drop off).take (0 * sz)).map (AM.tell σ keep ls f) = [] := by simp
       rw [e]
       cases a with
       | none => exact .dsn _
       | some a => exact .ds _ _ _ _ a 0 (fun _ => undef) (.inl rfl) (.inl rfl) (fun i hi => absurd hi (by simp)) (Nat.le_refl _) (fun e => by cases e) (by omega)
     · exact .u _
  | os nl sz id ver off len t a cap hk hc ht hB h =>
   simp only [AM.tell]
   cases hi : idxOf keep id 0 with
   | some j =>
    obtain ⟨_, h2⟩ := idxOf_spec _ _ _ _ hi
    rw [Nat.sub_zero] at h2
    refine .os _ _ _ _ _ _ _ a cap (hk.ren h2) hc ht hB fun ob hb => ?_
    obtain ⟨i, e1, e2⟩ := Env.ren_loc hb
    rw [h2] at e1; cases e1
    exact h ob e2
   | none =>
    cases hcs : Store.at σ id ver with
    | none => exact .u _
    | some cs =>
     simp only
     split
     · rename_i hle
       generalize hds : (cs.drop off).take (len * sz) = ds
       have hdl : ds.length = len * sz := by rw [← hds]; simp; omega
       by_cases h0 : ds = []
       · rw [h0]
         exact .ds _ _ _ _ a cap (fun _ => undef) (.inl rfl) (.inl rfl) (fun i hi => absurd hi (by simp)) hc (fun e => by cases e) hB
       · have hpos : 0 < ds.length := List.length_pos_iff.2 h0
         obtain ⟨b, hl, hb⟩ := hS.block_of hcs (show off < cs.length by omega)
         obtain ⟨b', e1, e2, _⟩ := h _ hl
         cases e1
         have hcap : cap ≠ 0 := by
          intro e; subst e
          have : len = 0 := by omega
          subst this; simp at hdl; exact h0 hdl
         have := e2.resolve_left hcap
         subst this
         have hg : ∀ i, i < ds.length → gc ds i = gc cs (off + i) := fun i hi => by
          rw [← hds]; exact gc_drop_take _ _ _ _ (by omega) (by omega)
         obtain ⟨vs, hvs⟩ : ∃ vs : Nat → Value, ∀ i, i < ds.length → E.w.cell? ⟨b, off + i, none⟩ = some (vs i) ∧ VR E (gc ds i) (vs i) := by
          have : ∀ i, ∃ v, i < ds.length → E.w.cell? ⟨b, off + i, none⟩ = some v ∧ VR E (gc ds i) v := fun i => by
           by_cases hi : i < ds.length
           · obtain ⟨v, hv⟩ := hb.cell (off + i) (by omega); exact ⟨v, fun _ => by rw [hg i hi]; exact hv⟩
           · exact ⟨undef, fun h => absurd h hi⟩
          exact Classical.skolem.1 this
         exact .ds _ _ _ _ ⟨b, off, none⟩ cap vs (.inr rfl) (.inr ⟨.inr ⟨id, ver, idxOf_none _ _ _ hi, hl⟩, fun i hi => by
          rw [List.length_map] at hi; exact (hvs i hi).1⟩) (lst _ _ fun i hi => (hvs i hi).2) hc (fun e => by cases e) hB
     · exact .u _
  | mp id b hk h =>
   simp only [AM.tell]
   cases hi : idxOf keep id 0 with
   | some j =>
    obtain ⟨_, h2⟩ := idxOf_spec _ _ _ _ hi
    rw [Nat.sub_zero] at h2
    refine .mp _ b (hk.ren h2) fun ob hb => ?_
    obtain ⟨i, e1, e2⟩ := Env.ren_loc hb
    rw [h2] at e1; cases e1
    exact h ob e2
   | none => exact .u _
  | nilm => exact .nilm
  | fn g fs cp vf vc hf hc h1 h2 => exact .fn g _ _ vf vc (by simpa using hf) (by simpa using hc) (lst fs _ h1) (lst cp _ h2)
  | nilF => exact .nilF
  | ifc t a v h => exact .ifc t _ v (ih a h)
  | nilI => exact .nilI
  | it id b hk h =>
   simp only [AM.tell]
   cases hi : idxOf keep id 0 with
   | some j =>
    obtain ⟨_, h2⟩ := idxOf_spec _ _ _ _ hi
    rw [Nat.sub_zero] at h2
    refine .it _ b (hk.ren h2) fun ob hb => ?_
    obtain ⟨i, e1, e2⟩ := Env.ren_loc hb
    rw [h2] at e1; cases e1
    exact h ob e2
   | none => exact .u _
  | gp g => exact .gp g
theorem SR.tell {E : Env} {σ : Store} (hS : SR E σ) {keep : List Nat} (hnd : keep.Nodup) (hlt : ∀ id ∈ keep, id < σ.length) (ls : Bool) (f : Nat) : SR (E.ren keep) (tellS σ keep ls f) := by
 have key : ∀ j v b, (E.ren keep).loc j = some (v, some b) → ∃ id, keep[j]? = some id ∧ E.loc id = some (v, some b) := fun j v b h => Env.ren_loc h
 refine ⟨by simp [tellS, Env.ren], fun j => ?_, fun j j' v v' b h h' => ?_, fun j v b h => ?_, fun b h => ?_, ?_⟩
 · simp only [tellS, List.getElem?_map]
   cases hj : keep[j]? with
   | none =>
    show (E.ren keep).loc j = none
    simp only [Env.ren, hj, Option.bind_none]
   | some id =>
    have hid := hlt id (List.mem_of_getElem? hj)
    have hloc : (E.ren keep).loc j = E.loc id := by simp only [Env.ren, hj, Option.bind_some]
    have hobj := hS.obj id
    have hg : σ[id]? = some (σ.getD id .dead) := by
     rw [List.getD_eq_getElem?_getD, List.getElem?_eq_getElem hid]; rfl
    rw [hg] at hobj
    simp only [Option.map_some]
    generalize σ.getD id .dead = o at hobj
    cases o with
    | cells ver cs =>
     rcases hobj with ⟨b, h1, h2⟩ | ⟨h1, h2⟩
     · refine .inl ⟨b, hloc.trans h1, ?_⟩
       obtain ⟨conc, t, fr, a1, a2, a3, a4⟩ := h2.blk
       refine ⟨conc, t, fr, a1, a2, by rw [List.length_map]; exact a3, fun i hi => ?_⟩
       rw [List.length_map] at hi
       rw [gc_map' hi]
       exact VR.tell hS f _ (a4 i hi)
     · exact .inr ⟨by rw [h1]; rfl, hloc.trans h2⟩
    | map es =>
     obtain ⟨b, ents, clock, h1, h2, h3, h4⟩ := hobj
     refine ⟨b, ents, clock, hloc.trans h1, h2, by rw [List.length_map]; exact h3, fun i h h' => ?_⟩
     rw [List.length_map] at h
     simp only [List.getElem_map]
     exact ⟨VR.tell hS f _ (h4 i h h').1, VR.tell hS f _ (h4 i h h').2⟩
    | iter s p =>
     obtain ⟨b, h1, h2⟩ := hobj
     exact ⟨b, hloc.trans h1, h2⟩
    | dead => exact hloc.trans hobj
 · obtain ⟨i, e1, e2⟩ := key _ _ _ h
   obtain ⟨i', e1', e2'⟩ := key _ _ _ h'
   have := hS.inj i i' v v' b e2 e2'
   subst this
   exact (List.getElem?_inj (List.getElem?_eq_some_iff.1 e1).1 hnd).1 (e1.trans e1'.symm)
 · obtain ⟨i, e1, e2⟩ := key _ _ _ h
   refine ⟨(hS.blk i v b e2).1, fun hs => ?_⟩
   rcases hs with hs | ⟨id, v', hm, hl⟩
   · exact (hS.blk i v b e2).2 hs
   · have := hS.inj id i v' v b hl e2
     subst this
     exact hm (List.mem_of_getElem? e1)
 · rcases h with h | ⟨id, v, _, hl⟩
   · exact hS.stb b h
   · exact (hS.blk id v b hl).1
 · exact hS.glb.mono fun b hb => ⟨.inl hb, rfl⟩
def TL (σ : Store) (keep : List Nat) (ls : Bool) (f : Nat) (F : Fr) : Nat → List AV → Prop
 | _, [] => True
 | i, a :: l => (a = .u ∨ tell σ keep ls f (F i) = a) ∧ TL σ keep ls f F (i + 1) l
theorem TL.get {σ : Store} {keep : List Nat} {ls : Bool} {f : Nat} {F : Fr} : ∀ {l : List AV} {i : Nat}, TL σ keep ls f F i l → ∀ j, j < l.length → l.getD j .u = .u ∨ tell σ keep ls f (F (i + j)) = l.getD j .u := by
 intro l
 induction l with
 | nil => intro i _ j hj; simp at hj
 | cons a l ih =>
  intro i h j hj
  cases j with
  | zero => simpa [TL] using h.1
  | succ j =>
   have := ih h.2 j (by simpa using hj)
   rw [show i + (j + 1) = i + 1 + j by omega]
   simpa using this
theorem FR.tell {E : Env} {n : Nat} {F : Fr} {a : Act} {σ : Store} (hS : SR E σ) (hF : FR E n F a) {keep : List Nat} {ls : Bool} {f : Nat} {L : List AV} (hL : TL σ keep ls f F 0 L) : FR (E.ren keep) n (fr L) a := by
 refine ⟨hF.size, hF.defers, fun t => ?_⟩
 unfold fr
 by_cases ht : t < L.length
 · rcases hL.get t ht with h | h
   · rw [h]; exact .u _
   · rw [Nat.zero_add] at h
     rw [← h]; exact VR.tell hS f _ (hF.tmps t)
 · rw [List.getD_eq_getElem?_getD, List.getElem?_eq_none (Nat.le_of_not_lt ht)]
   exact .u _
structure Tells (k : Nat) (F : Fr) (σ : Store) (L : List AV) (τ : Store) : Prop where
 wit : ∃ keep ls f, keep.Nodup ∧ (∀ id ∈ keep, id < σ.length) ∧ keep.take k = List.range k ∧ tellS σ keep ls f = τ ∧ TL σ keep ls f F 0 L
theorem Tells.env {k : Nat} {F : Fr} {σ : Store} {L : List AV} {τ : Store} (h : Tells k F σ L τ) {E : Env} {n : Nat} {a : Act} (hS : SR E σ) (hF : FR E n F a) :
 ∃ E', E'.w = E.w ∧ SR E' τ ∧ FR E' n (fr L) a ∧ ExtK k E E' := by
 obtain ⟨keep, ls, f, h1, h2, h3, h4, h5⟩ := h.wit
 exact ⟨E.ren keep, rfl, h4 ▸ hS.tell h1 h2 ls f, hF.tell hS h5, ExtK.ren hS.stb h3⟩
section
variable {P : Program} {n k : Nat} {Q : Exit → Fr → Store → Prop} {F : Fr} {σ : Store}
end
theorem ACalls.told {P : Program} {f : FuncId} {args : List AV} {σ : Store} {R : AV → Store → Prop}
 (h : ACalls P f args σ fun r σ' => ∃ keep ls g, keep.Nodup ∧ (∀ id ∈ keep, id < σ'.length) ∧ keep.take σ.length = List.range σ.length ∧ R (tell σ' keep ls g r) (tellS σ' keep ls g)) : ACalls P f args σ R :=
 ⟨h.1, fun E vs hS hl => (h.2 E vs hS hl).mono fun _ _ ⟨v, r, σ', E', h1, h2, h3, h4, h5, keep, ls, g, k1, k2, k3, k4⟩ => by
  have hk : E.n = σ.length := hS.len.symm
  have hx : ExtK E.n E' (E'.ren keep) := by rw [hk]; exact ExtK.ren h4.stb k3
  exact ⟨v, _, _, E'.ren keep, h1, h2, VR.tell (ls := ls) h4 g r h3, h4.tell k1 k2 ls g, ExtK.trans h5 hx, k4⟩⟩
end AM
end Go.Proofs.YtaddlmlpeghonaaDoor
