import Derived.Test.YtaddlmlpeghonaaDoorURa
set_option linter.unusedSimpArgs false
set_option linter.unusedVariables false
set_option linter.constructorNameAsVariable false
namespace Go.Proofs.YtaddlmlpeghonaaDoor
namespace AM
open Go.RowKit Go.ChangeShapes Go.WideShapes Go.Deep
section
variable {H : Type} {enc : TypeId × Value → H} {P : Program} {w : World} {base : Nat} {spare : Nat → Bool} {held : Bool}
def OpensS (enc : TypeId × Value → H) (P : Program) (w : World) (base : Nat) (spare : Nat → Bool) (held : Bool) (N : Nat) (t : TypeId) (A : List AV → Prop) : Prop :=
 ∀ n cs y, DataW.trod enc P w base spare held n t cs = some y → SizeOf.sizeOf y.1 < N → (∀ x ∈ y.1.weights P t, x ≤ reachBytes) → ∃ avs, avs.length = cs.length ∧ A avs ∧ ∀ i, i < avs.length → VR (Env.start w) (gc avs i) (cs.getD i undef)
variable {N : Nat}
theorem OpensS.mono {t : TypeId} {A B : List AV → Prop} (h : OpensS enc P w base spare held N t A) (k : ∀ l, A l → B l) : OpensS enc P w base spare held N t B := fun n cs y hy hN hs => by
 obtain ⟨avs, h1, h2, h3⟩ := h n cs y hy hN hs
 exact ⟨avs, h1, k _ h2, h3⟩
theorem OpensS.less {t : TypeId} {A : List AV → Prop} (h : OpensS enc P w base spare held (N + 1) t A) : OpensS enc P w base spare held N t A := fun n cs y hy hN hs => h n cs y hy (by omega) hs
theorem Opens.sized {t : TypeId} {A : List AV → Prop} (h : Opens enc P w base spare held t A) : OpensS enc P w base spare held N t A := fun n cs y hy _ _ => h n cs y hy
theorem opensS_string {t : TypeId} (ht : P.underlying t = some .string) : OpensS enc P w base spare held N t fun l => ∃ s, l = [.str s] ∧ s.length ≤ reachBytes := by
 intro n cs y hy _ hs
 obtain ⟨m, rfl, hy, hl⟩ := DataW.trod_string ht hy
 refine ⟨[.str m.data.toList], rfl, ⟨_, rfl, ?_⟩, fun i hi => by simp at hi; subst hi; exact .str _ _ rfl⟩
 have := hs m.data.toList.length (by subst hy; simp [DataW.weights])
 simpa using this
def tiles (P : Program) : List Field → Nat → Nat → Bool
 | [], o, e => o == e
 | f :: l, o, e => f.offset == o && tiles P l (o + P.cellsOf f.type) e
theorem tile {cs : List Value} {A : Nat → List AV → Prop} : ∀ (l : List Field) (o k e : Nat), tiles P l o e = true →
 (∀ j f, l[j]? = some f → ∃ avs : List AV, avs.length = P.cellsOf f.type ∧ A (k + j) avs ∧ ∀ i, i < avs.length → VR (Env.start w) (gc avs i) (cs.getD (f.offset + i) undef)) →
 ∃ parts : List (List AV), parts.length = l.length ∧ (∀ j, j < l.length → A (k + j) (parts.getD j [])) ∧ o + parts.flatten.length = e ∧ ∀ i, i < parts.flatten.length → VR (Env.start w) (gc parts.flatten i) (cs.getD (o + i) undef)
 | [], o, k, e, h, _ => ⟨[], rfl, (fun j hj => by simp at hj), by simpa [tiles] using h, (fun i hi => by simp at hi)⟩
 | f :: l, o, k, e, h, hA => by
  simp only [tiles, Bool.and_eq_true, beq_iff_eq] at h
  obtain ⟨avs, a1, a2, a3⟩ := hA 0 f rfl
  obtain ⟨parts, p1, p2, p3, p4⟩ := tile l (o + P.cellsOf f.type) (k + 1) e h.2 fun j g hg => by
   obtain ⟨x, x1, x2, x3⟩ := hA (j + 1) g (by simpa using hg)
   exact ⟨x, x1, by rw [show k + 1 + j = k + (j + 1) by omega]; exact x2, x3⟩
  refine ⟨avs :: parts, by simp [p1], ?_, by rw [List.flatten_cons, List.length_append]; omega, ?_⟩
  · intro j hj
    cases j with
    | zero => simpa using a2
    | succ j =>
     have := p2 j (by simpa using hj)
     rw [show k + 1 + j = k + (j + 1) by omega] at this
     simpa using this
  · intro i hi
    rw [List.flatten_cons] at hi ⊢
    by_cases hlt : i < avs.length
    · have := a3 i hlt
      rw [h.1] at this
      rw [gc, List.getD_eq_getElem?_getD, List.getElem?_append_left hlt]
      simpa [gc, List.getD_eq_getElem?_getD] using this
    · rw [List.length_append] at hi
      have := p4 (i - avs.length) (by omega)
      rw [show o + P.cellsOf f.type + (i - avs.length) = o + i by omega] at this
      rw [gc, List.getD_eq_getElem?_getD, List.getElem?_append_right (by omega)]
      simpa [gc, List.getD_eq_getElem?_getD] using this
theorem mem_weightsEach {x : Nat} : ∀ {ts : List TypeId} {ds : List (DataW H)} (j : Nat) (t : TypeId) (d : DataW H), ts[j]? = some t → ds[j]? = some d → x ∈ d.weights P t → x ∈ DataW.weightsEach P ts ds
 | [], _, j, t, d, h, _, _ => by simp at h
 | _ :: _, [], j, t, d, _, h, _ => by simp at h
 | t' :: ts, d' :: ds, j, t, d, ht, hd, hx => by
  rw [DataW.weightsEach, List.mem_append]
  cases j with
  | zero =>
   simp at ht hd; subst ht hd; exact Or.inl hx
  | succ j => exact Or.inr (mem_weightsEach j t d (by simpa using ht) (by simpa using hd) hx)
theorem mem_weightsAll {x : Nat} {e : TypeId} : ∀ {ds : List (DataW H)} {d : DataW H}, d ∈ ds → x ∈ d.weights P e → x ∈ DataW.weightsAll P e ds
 | [], _, h, _ => by cases h
 | d' :: ds, d, h, hx => by
  rw [DataW.weightsAll, List.mem_append]
  rcases List.mem_cons.1 h with rfl | h
  · exact Or.inl hx
  · exact Or.inr (mem_weightsAll h hx)
theorem opensS_struct {t : TypeId} {fs : Array Field} (ht : P.underlying t = some (.struct fs)) (hC : tiles P fs.toList 0 (P.cellsOf t) = true) {A : Nat → List AV → Prop}
 (hA : ∀ j f, fs[j]? = some f → OpensS enc P w base spare held N f.type (A j)) : OpensS enc P w base spare held (N + 1) t fun l => ∃ parts : List (List AV), l = parts.flatten ∧ parts.length = fs.size ∧ ∀ j, j < fs.size → A j (parts.getD j []) := by
 intro n cs y hy hN hs
 obtain ⟨ys, n', _, he, hlen, hyl, hf⟩ := DataW.trod_struct ht hy
 have hends : ∀ (l : List Field) (o e : Nat), tiles P l o e = true → o ≤ e ∧ ∀ (j : Nat) (f : Field), l[j]? = some f → f.offset + P.cellsOf f.type ≤ e := by
  intro l
  induction l with
  | nil => intro o e h; simp [tiles] at h; exact ⟨by omega, fun j f h => by simp at h⟩
  | cons f l ih =>
   intro o e h
   simp only [tiles, Bool.and_eq_true, beq_iff_eq] at h
   obtain ⟨h1, h2⟩ := ih _ _ h.2
   refine ⟨by omega, fun j g hg => ?_⟩
   cases j with
   | zero => simp at hg; subst hg; omega
   | succ j => exact h2 j g (by simpa using hg)
 obtain ⟨parts, p1, p2, p3, p4⟩ := tile (w := w) (cs := cs) (A := A) fs.toList 0 0 (P.cellsOf t) hC fun j f hj => by
  have hfj : fs[j]? = some f := by simpa using hj
  have hlt : j < fs.size := (Array.getElem?_eq_some_iff.1 hfj).1
  have h1 := hf j f hfj
  rw [List.getElem?_eq_getElem (by omega)] at h1
  have hend := (hends _ _ _ hC).2 j f hj
  have hm : ys[j]'(by omega) ∈ ys := List.getElem_mem _
  have hsz : SizeOf.sizeOf (ys[j]'(by omega)).1 < N := by
   have h2 : (ys[j]'(by omega)).1 ∈ ys.map (·.1) := List.mem_map_of_mem hm
   have h3 := List.sizeOf_lt_of_mem h2
   rw [he] at hN
   simp only [DataW.agg.sizeOf_spec] at hN
   omega
  obtain ⟨avs, e1, e2, e3⟩ := hA j f hfj _ _ _ h1 hsz fun x hx => hs x (by
   rw [he, DataW.weights, ht]
   exact mem_weightsEach j f.type _ (by simp [hj]) (by rw [List.getElem?_map, List.getElem?_eq_getElem (by omega)]; rfl) hx)
  have hl1 : avs.length = P.cellsOf f.type := by rw [e1, List.length_take, List.length_drop]; omega
  refine ⟨avs, hl1, by rw [Nat.zero_add]; exact e2, fun i hi => ?_⟩
  have h4 := e3 i hi
  have h5 : ((cs.drop f.offset).take (P.cellsOf f.type)).getD i undef = cs.getD (f.offset + i) undef := by
   simp only [List.getD_eq_getElem?_getD]
   rw [List.getElem?_take_of_lt (by omega), List.getElem?_drop]
  rw [h5] at h4; exact h4
 refine ⟨parts.flatten, by omega, ⟨parts, rfl, by simpa using p1, fun j hj => ?_⟩, fun i hi => ?_⟩
 · have := p2 j (by simpa using hj)
   rwa [Nat.zero_add] at this
 · have := p4 i hi
   rwa [Nat.zero_add] at this
theorem opensS_slice {t e : TypeId} (ht : P.underlying t = some (.slice e)) (hpos : 0 < P.cellsOf e) {A : List AV → Prop} (hA : OpensS enc P w base spare held N e A) :
 OpensS enc P w base spare held (N + 1) t fun l => ∃ es, l = [.ds true (List.flatten es) (List.length es) false] ∧ (∀ x ∈ es, A x ∧ x.length = P.cellsOf e) ∧ es.length * P.bytesOf e ≤ reachBytes ∧ es.length ≤ maxLen := by
 intro n cs y hy hN hs
 rcases open_slice ht hy with ⟨rfl, _⟩ | ⟨a, len, cap, m, n', D, Pl, rfl, _, hl, hm, hmm, hye, hi⟩
 · refine ⟨[.ds true [] 0 false], rfl, ⟨[], by simp, by simp, by simp, by simp⟩, fun i hi => ?_⟩
   simp at hi; subst hi; exact .dsn _
 have hlm : len ≤ m := by rw [hmm]; split <;> omega
 have hlen : len * P.bytesOf e ≤ reachBytes := by
  have := hs ((((List.range len).map D).length + ((List.range (m - len)).map fun j => D (len + j)).length) * P.bytesOf e) (by rw [hye]; simp only [DataW.weights, ht]; exact List.mem_cons_self ..)
  rw [List.length_map, List.length_range] at this
  exact Nat.le_trans (Nat.mul_le_mul_right _ (Nat.le_add_right _ _)) this
 have each : ∀ i, i < len → ∃ avs : List AV, avs.length = P.cellsOf e ∧ A avs ∧ ∀ j, j < avs.length → ∃ v, w.cell? ((a.add (i * P.cellsOf e)).add j) = some v ∧ VR (Env.start w) (gc avs j) v := by
  intro i hil
  obtain ⟨cs', h1, h2⟩ := hi i (by omega)
  obtain ⟨_, hcl, hat⟩ := World.cells?_some h1
  have hmem : D i ∈ (List.range len).map D := List.mem_map_of_mem (List.mem_range.2 hil)
  have hsz : SizeOf.sizeOf (D i) < N := by
   have h3 := List.sizeOf_lt_of_mem hmem
   rw [hye] at hN
   simp only [DataW.slice.sizeOf_spec] at hN
   omega
  obtain ⟨avs, e1, e2, e3⟩ := hA _ _ _ h2 hsz fun x hx => hs x (by
   rw [hye]; simp only [DataW.weights, ht]
   exact List.mem_cons_of_mem _ (List.mem_append_left _ (mem_weightsAll hmem hx)))
  refine ⟨avs, by omega, e2, fun j hj => ⟨cs'.getD j undef, ?_, e3 j hj⟩⟩
  rw [hat j (by omega), List.getD_eq_getElem?_getD, List.getElem?_eq_getElem (by omega)]; rfl
 obtain ⟨g, hg⟩ := Classical.axiomOfChoice (r := fun (i : Fin len) (avs : List AV) => avs.length = P.cellsOf e ∧ A avs ∧ ∀ j, j < avs.length → ∃ v, w.cell? ((a.add (i.1 * P.cellsOf e)).add j) = some v ∧ VR (Env.start w) (gc avs j) v) (fun i => each i.1 i.2)
 have hes : ∀ x ∈ List.ofFn g, A x ∧ x.length = P.cellsOf e := by
  intro x hx
  obtain ⟨i, rfl⟩ := List.mem_ofFn.1 hx
  exact ⟨(hg i).2.1, (hg i).1⟩
 refine ⟨[.ds true (List.ofFn g).flatten (List.ofFn g).length false], rfl, ⟨_, rfl, hes, by simpa using hlen, by simp; omega⟩, fun i hi => ?_⟩
 simp at hi; subst hi
 have hfl := length_flat (es := List.ofFn g) (sz := P.cellsOf e) fun x hx => (hes x hx).2
 have hsp : (List.ofFn g).flatten.length ≠ 0 → a.spot = none := by
  intro h0
  rw [hfl] at h0
  have hl0 : 0 < len := by
   rcases Nat.eq_zero_or_pos len with h | h
   · subst h; simp at h0
   · exact h
  obtain ⟨v, h1, _⟩ := (hg ⟨0, hl0⟩).2.2 0 (by rw [(hg ⟨0, hl0⟩).1]; exact hpos)
  have := World.cell?_spot h1
  simpa [Addr.add] using this
 have hcell : ∀ k, k < (List.ofFn g).flatten.length → ∃ v, w.cell? ⟨a.block, a.off + k, none⟩ = some v ∧ VR (Env.start w) (gc (List.ofFn g).flatten k) v := by
  intro k hk
  have hs := hsp (by omega)
  rw [hfl] at hk
  simp only [List.length_ofFn] at hk
  have hd : k / P.cellsOf e < len := Nat.div_lt_of_lt_mul (by rw [Nat.mul_comm]; exact hk)
  have hmd : k % P.cellsOf e < P.cellsOf e := Nat.mod_lt _ hpos
  have hsplit : k / P.cellsOf e * P.cellsOf e + k % P.cellsOf e = k := by rw [Nat.mul_comm]; exact Nat.div_add_mod _ _
  obtain ⟨v, h1, h2⟩ := (hg ⟨_, hd⟩).2.2 (k % P.cellsOf e) (by rw [(hg ⟨_, hd⟩).1]; exact hmd)
  refine ⟨v, ?_, ?_⟩
  · rw [add_spot hs, add_spot rfl] at h1
    simp only at h1
    rw [Nat.add_assoc, hsplit] at h1; exact h1
  · have := gc_flat (es := List.ofFn g) (fun x hx => (hes x hx).2) (k / P.cellsOf e) (k % P.cellsOf e) hmd (by simpa using hd)
    rw [hsplit] at this
    rw [this]; simpa using h2
 obtain ⟨vs, hvs⟩ : ∃ vs : Nat → Value, ∀ k, k < (List.ofFn g).flatten.length → w.cell? ⟨a.block, a.off + k, none⟩ = some (vs k) ∧ VR (Env.start w) (gc (List.ofFn g).flatten k) (vs k) := by
  refine ⟨fun k => (w.cell? ⟨a.block, a.off + k, none⟩).getD undef, fun k hk => ?_⟩
  obtain ⟨v, h1, h2⟩ := hcell k hk
  simp only [h1, Option.getD_some]; exact ⟨trivial, h2⟩
 show VR (Env.start w) (.ds true _ _ false) (.slice (some a) len cap)
 rw [List.length_ofFn]
 refine .ds _ _ _ _ a cap vs ?_ ?_ (fun k hk => (hvs k hk).2) hl (fun h => by cases h) ?_
 · by_cases h0 : (List.ofFn g).flatten.length = 0
   · exact .inl (List.length_eq_zero_iff.1 h0)
   · exact .inr (hsp h0)
 · by_cases h0 : (List.ofFn g).flatten.length = 0
   · exact .inl h0
   · refine .inr ⟨?_, fun k hk => (hvs k hk).1⟩
     obtain ⟨_, h, _⟩ := hcell 0 (by omega)
     exact cell_lt (a := ⟨a.block, a.off + 0, none⟩) h
 · unfold maxLen at *; omega
theorem OpensS.arg {t : TypeId} {A : List AV → Prop} (h : ∀ N, OpensS enc P w base spare held N t A) {v : Value} {d : DataW H} {p : List MemPlace} (hv : DataW.Trod enc P w base spare held t v d p) (hw : ∀ x ∈ d.weights P t, x ≤ reachBytes) (h1 : v.cells.toList = [v]) : ∃ a, A [a] ∧ VR (Env.start w) a v := by
 obtain ⟨n, hn⟩ := hv
 obtain ⟨avs, e1, e2, e3⟩ := h _ _ _ _ hn (Nat.lt_succ_self _) hw
 rw [h1] at e1 e3
 match avs, e1 with
 | [a], _ => exact ⟨a, e2, by simpa [gc] using e3 0 (by simp)⟩
theorem OpensS.agg {t : TypeId} {A : List AV → Prop} (h : ∀ N, OpensS enc P w base spare held N t A) {vs : Array Value} {d : DataW H} {p : List MemPlace} (hv : DataW.Trod enc P w base spare held t (.agg vs) d p) (hw : ∀ x ∈ d.weights P t, x ≤ reachBytes) : ∃ l, A l ∧ VR (Env.start w) (.agg l) (.agg vs) := by
 obtain ⟨n, hn⟩ := hv
 obtain ⟨avs, e1, e2, e3⟩ := h _ _ _ _ hn (Nat.lt_succ_self _) hw
 refine ⟨avs, e2, .agg _ _ (by simpa [Value.cells] using e1.symm) fun i hi => ?_⟩
 have := e3 i hi
 simpa [Value.cells, List.getD_eq_getElem?_getD, Array.getD_eq_getD_getElem?] using this
end
end AM
open AM
theorem flat_of {α : Type} {e : α → List AV} {p : α → Prop} {es : List (List AV)} (h : ∀ x ∈ es, ∃ y : α, x = e y ∧ p y) : ∃ zs : List α, es.flatten = zs.flatMap e ∧ zs.length = es.length ∧ ∀ z ∈ zs, p z := by
 induction es with
 | nil => exact ⟨[], rfl, rfl, fun z hz => by cases hz⟩
 | cons x es ih =>
  obtain ⟨zs, h1, h2, h3⟩ := ih fun y hy => h y (by simp [hy])
  obtain ⟨y, rfl, hp⟩ := h x (by simp)
  refine ⟨y :: zs, by simp [h1], by simp [h2], fun z hz => ?_⟩
  rcases List.mem_cons.1 hz with rfl | hz
  · exact hp
  · exact h3 z hz
def in64 (n : Int) : Prop := -9223372036854775808 ≤ n ∧ n < 9223372036854775808
theorem wf64 {n : Int} (h : (Lit.int .i64 n).wf = true) : in64 n := by
 simp only [Lit.wf, IntKind.min, IntKind.max, IntKind.signed, IntKind.bits, Bool.and_eq_true, decide_eq_true_eq, if_true] at h
 unfold in64; omega
section
variable {H : Type} {enc : TypeId × Value → H} {w : World} {base : Nat} {spare : Nat → Bool} {held : Bool} {N : Nat}
theorem opens_in64 : OpensS enc Tryd.prog w base spare held N 3 fun x => ∃ n, x = [.int .i64 n] ∧ in64 n :=
 ((opens_int Tryd.underlying3).mono fun x ⟨n, h1, h2⟩ => ⟨n, h1, wf64 h2⟩).sized
theorem opens_str : OpensS enc Tryd.prog w base spare held N 9 fun x => ∃ s, x = [.str s] ∧ s.length ≤ 140737488351232 := opensS_string Tryd.underlying9
end
end Go.Proofs.YtaddlmlpeghonaaDoor
