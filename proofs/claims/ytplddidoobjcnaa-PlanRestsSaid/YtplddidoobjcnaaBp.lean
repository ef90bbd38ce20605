/- The abstract machine: a law's arguments, read as data; what a law's walk is told, from what the abstract side says of its function. -/
import Derived.Test.YtplddidoobjcnaaBo
import Derived.Deep.Slices
import Derived.Deep.Fields
import Derived.ChangeArms
import Derived.ChangeSame
set_option linter.unusedSimpArgs false
set_option linter.unusedVariables false
set_option linter.constructorNameAsVariable false
namespace Go.Proofs.Ytplddidoobjcnaa
namespace AM
open Go.RowKit Go.ChangeShapes Go.WideShapes Go.Deep

/-- A law's world at its start: nothing is owned, all that there is is read. -/
def Env.start (w : World) : Env := { w := w, st := fun b => b < w.heap.size, loc := fun _ => none, n := 0 }

theorem SR.start (w : World) : SR (Env.start w) [] where
  len := rfl
  obj := fun id => by simp [ObjR, Env.start]
  inj := fun _ _ _ _ _ h => by simp [Env.start] at h
  blk := fun _ _ _ h => by simp [Env.start] at h
  stb := fun b hb => hb

theorem cell_lt {w : World} {a : Addr} {v : Value} (h : w.cell? a = some v) : a.block < w.heap.size := by
  unfold World.cell? at h
  rcases Nat.lt_or_ge a.block w.heap.size with h1 | h1
  · exact h1
  · rw [Array.getElem?_eq_none h1] at h; simp at h

theorem add_spot {a : Addr} (h : a.spot = none) (n : Nat) : a.add n = ⟨a.block, a.off + n, none⟩ := by
  obtain ⟨b, o, s⟩ := a
  simp only at h; subst h
  unfold Addr.add
  split
  · rename_i e; subst e; rfl
  · rfl

section
variable {H : Type} {enc : TypeId × Value → H} {P : Program} {w : World} {base : Nat} {spare : Nat → Bool} {held : Bool}

/-- What is told of a type's cells that came in. -/
def Opens (enc : TypeId × Value → H) (P : Program) (w : World) (base : Nat) (spare : Nat → Bool) (held : Bool) (t : TypeId) (A : List AV → Prop) : Prop :=
  ∀ n cs y, DataW.trod enc P w base spare held n t cs = some y → ∃ avs, avs.length = cs.length ∧ A avs ∧ ∀ i, i < avs.length → VR (Env.start w) (gc avs i) (cs.getD i undef)

theorem Opens.mono {t : TypeId} {A B : List AV → Prop} (h : Opens enc P w base spare held t A) (k : ∀ l, A l → B l) : Opens enc P w base spare held t B := fun n cs y hy => by
  obtain ⟨avs, h1, h2, h3⟩ := h n cs y hy
  exact ⟨avs, h1, k _ h2, h3⟩

theorem opens_int {t : TypeId} {k : IntKind} (ht : P.underlying t = some (.int k)) : Opens enc P w base spare held t fun l => ∃ n, l = [.int k n] ∧ (Lit.int k n).wf = true := by
  intro n cs y hy
  obtain ⟨m, rfl, _, hw⟩ := DataW.trod_int ht hy
  exact ⟨[.int k m], rfl, ⟨m, rfl, hw⟩, fun i hi => by simp at hi; subst hi; exact .int _ _⟩

theorem opens_bool {t : TypeId} (ht : P.underlying t = some .bool) : Opens enc P w base spare held t fun l => ∃ b, l = [.bool b] := by
  intro n cs y hy
  obtain ⟨m, rfl, _⟩ := DataW.trod_bool ht hy
  exact ⟨[.bool m], rfl, ⟨m, rfl⟩, fun i hi => by simp at hi; subst hi; exact .bool _⟩

theorem opens_string {t : TypeId} (ht : P.underlying t = some .string) : Opens enc P w base spare held t fun l => ∃ s, l = [.str s] ∧ s.length ≤ maxLen := by
  intro n cs y hy
  obtain ⟨m, rfl, _, hl⟩ := DataW.trod_string ht hy
  exact ⟨[.str m.data.toList], rfl, ⟨_, rfl, by simpa using hl⟩, fun i hi => by simp at hi; subst hi; exact .str _ _ rfl⟩

/-- A struct, each of whose fields is one cell. -/
theorem opens_struct {t : TypeId} {fs : Array Field} (ht : P.underlying t = some (.struct fs)) (hone : oneCellFields P fs = true) (hC : P.cellsOf t = fs.size) {A : Nat → List AV → Prop}
    (hA : ∀ j f, fs[j]? = some f → Opens enc P w base spare held f.type (A j)) : Opens enc P w base spare held t fun l => l.length = fs.size ∧ ∀ j, j < fs.size → A j [gc l j] := by
  intro n cs y hy
  obtain ⟨ys, n', _, _, hlen, hyl, hf⟩ := DataW.trod_struct ht hy
  rw [hC] at hlen
  have each : ∀ j, j < fs.size → ∃ a, A j [a] ∧ VR (Env.start w) a (cs.getD j undef) := by
    intro j hj
    have hfj : fs[j]? = some fs[j] := Array.getElem?_eq_getElem hj
    obtain ⟨ho, hk⟩ := hone_of hone j _ hfj
    have h1 := hf j _ hfj
    rw [ho, hk, List.getElem?_eq_getElem (by omega)] at h1
    have hone' : (cs.drop j).take 1 = [cs[j]'(by omega)] := by
      rw [List.drop_eq_getElem_cons (by omega)]; rfl
    rw [hone'] at h1
    obtain ⟨avs, e1, e2, e3⟩ := hA j _ hfj _ _ _ h1
    match avs, e1 with
    | [a], _ =>
      refine ⟨a, e2, ?_⟩
      have := e3 0 (by simp)
      simpa [gc, List.getD_eq_getElem?_getD, List.getElem?_eq_getElem (show j < cs.length by omega)] using this
  obtain ⟨g, hg⟩ := Classical.axiomOfChoice (r := fun (j : Fin fs.size) (a : AV) => A j.1 [a] ∧ VR (Env.start w) a (cs.getD j.1 undef)) (fun j => each j.1 j.2)
  have hget : ∀ j (hj : j < fs.size), gc (List.ofFn g) j = g ⟨j, hj⟩ := by
    intro j hj
    simp [gc, List.getD_eq_getElem?_getD, hj]
  refine ⟨List.ofFn g, by simp [hlen], ⟨by simp, fun j hj => ?_⟩, fun i hi => ?_⟩
  · rw [hget j hj]; exact (hg ⟨j, hj⟩).1
  · have hi' : i < fs.size := by simpa using hi
    rw [hget i hi']; exact (hg ⟨i, hi'⟩).2

theorem gc_flat {sz : Nat} : ∀ {es : List (List AV)} (_ : ∀ x ∈ es, x.length = sz) (i j : Nat) (_ : j < sz) (hi : i < es.length), gc es.flatten (i * sz + j) = gc (es[i]'hi) j := by
  intro es
  induction es with
  | nil => intro _ i j _ hi; simp at hi
  | cons x es ih =>
    intro h i j hj hi
    have hx := h x (by simp)
    cases i with
    | zero =>
      simp only [List.flatten_cons, Nat.zero_mul, Nat.zero_add, List.getElem_cons_zero]
      simp [gc, List.getElem?_append_left (show j < x.length by omega)]
    | succ i =>
      have := ih (fun y hy => h y (by simp [hy])) i j hj (by simpa using hi)
      have e : (i + 1) * sz + j = x.length + (i * sz + j) := by rw [Nat.succ_mul, hx]; omega
      simp only [List.flatten_cons, List.getElem_cons_succ]
      rw [← this, e]
      simp only [gc, List.getD_eq_getElem?_getD, List.getElem?_append_right (Nat.le_add_right _ _), Nat.add_sub_cancel_left]

theorem length_flat {sz : Nat} : ∀ {es : List (List AV)} (_ : ∀ x ∈ es, x.length = sz), es.flatten.length = es.length * sz := by
  intro es
  induction es with
  | nil => intro _; simp
  | cons x es ih => intro h; simp only [List.flatten_cons, List.length_append, ih fun y hy => h y (by simp [hy]), h x (by simp), List.length_cons]; rw [Nat.succ_mul]; omega

theorem opens_slice {t e : TypeId} (ht : P.underlying t = some (.slice e)) (hpos : 0 < P.cellsOf e) {A : List AV → Prop} (hA : Opens enc P w base spare held e A) :
    Opens enc P w base spare held t fun l => ∃ es, l = [.ds true (List.flatten es) (List.length es) false] ∧ (∀ x ∈ es, A x ∧ x.length = P.cellsOf e) ∧ es.length ≤ maxLen := by
  intro n cs y hy
  rcases open_slice ht hy with ⟨rfl, _⟩ | ⟨a, len, cap, m, n', D, Pl, rfl, _, hl, hm, hmm, _, hi⟩
  · refine ⟨[.ds true [] 0 false], rfl, ⟨[], by simp, by simp, by simp⟩, fun i hi => ?_⟩
    simp at hi; subst hi; exact .dsn _
  have hlm : len ≤ m := by rw [hmm]; split <;> omega
  have each : ∀ i, i < len → ∃ avs : List AV, avs.length = P.cellsOf e ∧ A avs ∧ ∀ j, j < avs.length → ∃ v, w.cell? ((a.add (i * P.cellsOf e)).add j) = some v ∧ VR (Env.start w) (gc avs j) v := by
    intro i hil
    obtain ⟨cs', h1, h2⟩ := hi i (by omega)
    obtain ⟨_, hcl, hat⟩ := World.cells?_some h1
    obtain ⟨avs, e1, e2, e3⟩ := hA _ _ _ h2
    refine ⟨avs, by omega, e2, fun j hj => ⟨cs'.getD j undef, ?_, e3 j hj⟩⟩
    rw [hat j (by omega), List.getD_eq_getElem?_getD, List.getElem?_eq_getElem (by omega)]; rfl
  obtain ⟨g, hg⟩ := Classical.axiomOfChoice (r := fun (i : Fin len) (avs : List AV) => avs.length = P.cellsOf e ∧ A avs ∧ ∀ j, j < avs.length → ∃ v, w.cell? ((a.add (i.1 * P.cellsOf e)).add j) = some v ∧ VR (Env.start w) (gc avs j) v) (fun i => each i.1 i.2)
  have hes : ∀ x ∈ List.ofFn g, A x ∧ x.length = P.cellsOf e := by
    intro x hx
    obtain ⟨i, rfl⟩ := List.mem_ofFn.1 hx
    exact ⟨(hg i).2.1, (hg i).1⟩
  refine ⟨[.ds true (List.ofFn g).flatten (List.ofFn g).length false], rfl, ⟨_, rfl, hes, by simp; omega⟩, fun i hi => ?_⟩
  simp at hi; subst hi
  have hfl := length_flat (es := List.ofFn g) (sz := P.cellsOf e) fun x hx => (hes x hx).2
  -- each cell
  have hsp : (List.ofFn g).flatten.length ≠ 0 → a.spot = none := by
    intro h0
    rw [hfl] at h0
    have hl0 : 0 < len := by
      rcases Nat.eq_zero_or_pos len with h | h
      · subst h; simp at h0
      · exact h
    obtain ⟨v, h1, _⟩ := (hg ⟨0, hl0⟩).2.2 0 (by rw [(hg ⟨0, hl0⟩).1]; exact hpos)
    have := World.cell?_spot h1
    simpa [Addr.add] using this
  have hcell : ∀ k, k < (List.ofFn g).flatten.length → ∃ v, w.cell? ⟨a.block, a.off + k, none⟩ = some v ∧ VR (Env.start w) (gc (List.ofFn g).flatten k) v := by
    intro k hk
    have hs := hsp (by omega)
    rw [hfl] at hk
    simp only [List.length_ofFn] at hk
    have hd : k / P.cellsOf e < len := Nat.div_lt_of_lt_mul (by rw [Nat.mul_comm]; exact hk)
    have hmd : k % P.cellsOf e < P.cellsOf e := Nat.mod_lt _ hpos
    have hsplit : k / P.cellsOf e * P.cellsOf e + k % P.cellsOf e = k := by rw [Nat.mul_comm]; exact Nat.div_add_mod _ _
    obtain ⟨v, h1, h2⟩ := (hg ⟨_, hd⟩).2.2 (k % P.cellsOf e) (by rw [(hg ⟨_, hd⟩).1]; exact hmd)
    refine ⟨v, ?_, ?_⟩
    · rw [add_spot hs, add_spot rfl] at h1
      simp only at h1
      rw [Nat.add_assoc, hsplit] at h1; exact h1
    · have := gc_flat (es := List.ofFn g) (fun x hx => (hes x hx).2) (k / P.cellsOf e) (k % P.cellsOf e) hmd (by simpa using hd)
      rw [hsplit] at this
      rw [this]; simpa using h2
  obtain ⟨vs, hvs⟩ : ∃ vs : Nat → Value, ∀ k, k < (List.ofFn g).flatten.length → w.cell? ⟨a.block, a.off + k, none⟩ = some (vs k) ∧ VR (Env.start w) (gc (List.ofFn g).flatten k) (vs k) := by
    refine ⟨fun k => (w.cell? ⟨a.block, a.off + k, none⟩).getD undef, fun k hk => ?_⟩
    obtain ⟨v, h1, h2⟩ := hcell k hk
    simp only [h1, Option.getD_some]; exact ⟨trivial, h2⟩
  show VR (Env.start w) (.ds true _ _ false) (.slice (some a) len cap)
  rw [List.length_ofFn]
  refine .ds _ _ _ _ a cap vs ?_ ?_ (fun k hk => (hvs k hk).2) hl (fun h => by cases h)
  · by_cases h0 : (List.ofFn g).flatten.length = 0
    · exact .inl (List.length_eq_zero_iff.1 h0)
    · exact .inr (hsp h0)
  · by_cases h0 : (List.ofFn g).flatten.length = 0
    · exact .inl h0
    · refine .inr ⟨?_, fun k hk => (hvs k hk).1⟩
      obtain ⟨_, h, _⟩ := hcell 0 (by omega)
      exact cell_lt (a := ⟨a.block, a.off + 0, none⟩) h

theorem Opens.arg {t : TypeId} {A : List AV → Prop} (h : Opens enc P w base spare held t A) {v : Value} {d : DataW H} {p : List MemPlace} (hv : DataW.Trod enc P w base spare held t v d p) (h1 : v.cells.toList = [v]) : ∃ a, A [a] ∧ VR (Env.start w) a v := by
  obtain ⟨n, hn⟩ := hv
  obtain ⟨avs, e1, e2, e3⟩ := h _ _ _ hn
  rw [h1] at e1 e3
  match avs, e1 with
  | [a], _ => exact ⟨a, e2, by simpa [gc] using e3 0 (by simp)⟩

end

/-- What a law's walk is told. -/
theorem walk_of {P : Program} {f : FuncId} {avs : List AV} {x : AV} {v : Value} (h : ACalls P f avs [] fun r σ' => r = x) {w : World} {vs : Array Value} (hvs : ListR (Env.start w) avs vs.toList) (hx : ∀ E u, VR E x u → u = v) :
    Calls P f vs w fun e w' => e = .returned v ∧ Below w.heap.size w w' := by
  refine (h.2 (Env.start w) vs (SR.start w) hvs).mono ?_
  rintro e w' ⟨u, r, σ', E', rfl, rfl, h3, _, h5, rfl⟩
  refine ⟨by rw [hx _ _ h3], h5.os, h5.tape, h5.output, h5.size, fun k hk => (h5.st k hk).2⟩

theorem listR_one {E : Env} {a : AV} {v : Value} (h : VR E a v) : ListR E [a] [v] := ⟨rfl, fun i hi => by simp at hi; subst hi; exact h⟩
theorem listR_cons {E : Env} {a : AV} {v : Value} {l : List AV} {m : List Value} (h : VR E a v) (k : ListR E l m) : ListR E (a :: l) (v :: m) := by
  refine ⟨by simp [k.1], fun i hi => ?_⟩
  cases i with
  | zero => exact h
  | succ i => exact k.2 i (by simpa using hi)
theorem listR_nil {E : Env} : ListR E [] [] := ⟨rfl, fun i hi => by simp at hi⟩
theorem VR.true_of {E : Env} {u : Value} (h : VR E (.bool true) u) : u = .bool true := by cases h; rfl

end AM
end Go.Proofs.Ytplddidoobjcnaa
