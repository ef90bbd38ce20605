import Derived.Test.YtaddlmlpeghonaaDoorUB0
import Derived.Below
import Derived.Tactics
import Derived.WalkKit
set_option linter.unusedSimpArgs false
set_option linter.unusedVariables false
set_option linter.constructorNameAsVariable false
namespace Go.Proofs.YtaddlmlpeghonaaDoor
namespace AM
open Go.RowKit
inductive AV where
 | u
 | bool (b : Bool)
 | int (k : IntKind) (n : Int)
 | str (s : List UInt8)
 | agg (cs : List AV)
 | tup (vs : List AV)
 | nilp
 | op (id ver off : Nat)
 | dp (cells : List AV) (off : Nat)
 | ds (nl : Bool) (cells : List AV) (len : Nat) (tight : Bool)
 | os (nl : Bool) (sz id ver off len : Nat) (tight : Bool)
 | mp (id : Nat)
 | nilm
 | fn (f : Fn) (first cap : List AV)
 | nilF
 | ifc (t : TypeId) (v : AV)
 | nilI
 | it (id : Nat)
 | gp (g : Nat)
 deriving Inhabited
def gc (cs : List AV) (i : Nat) : AV := cs.getD i .u
def AV.cells : AV → List AV
 | .agg cs => cs
 | v => [v]
def AV.one : AV → Bool
 | .u | .agg _ | .tup _ => false
 | _ => true
structure Env where
 w : World
 st : Nat → Prop
 loc : Nat → Option (Nat × Option Nat)
 n : Nat
def Row (w : World) (st : Nat → Prop) (b o m : Nat) (vs : Nat → Value) : Prop :=
 m = 0 ∨ (st b ∧ ∀ i, i < m → w.cell? ⟨b, o + i, none⟩ = some (vs i))
def Env.ok (E : Env) (id ver : Nat) : Prop := id < E.n ∧ ∀ v ob, E.loc id = some (v, ob) → ver ≤ v
inductive VR (E : Env) : AV → Value → Prop
 | u (v : Value) : VR E .u v
 | bool (b : Bool) : VR E (.bool b) (.bool b)
 | int (k : IntKind) (n : Int) : VR E (.int k n) (.int k n)
 | str (l : List UInt8) (s : ByteArray) (h : s.data.toList = l) : VR E (.str l) (.string s)
 | agg (cs : List AV) (vs : Array Value) (hl : vs.size = cs.length) (h : ∀ i, i < cs.length → VR E (gc cs i) (vs.getD i undef)) : VR E (.agg cs) (.agg vs)
 | tup (cs : List AV) (vs : Array Value) (hl : vs.size = cs.length) (h : ∀ i, i < cs.length → VR E (gc cs i) (vs.getD i undef)) : VR E (.tup cs) (.tuple vs)
 | nilp : VR E .nilp (.pointer none)
 | op (id ver off : Nat) (a : Addr) (hk : E.ok id ver) (h : ∀ b, E.loc id = some (ver, some b) → a = ⟨b, off, none⟩) : VR E (.op id ver off) (.pointer (some a))
 | dp (cells : List AV) (off b o : Nat) (vs : Nat → Value) (hr : Row E.w E.st b o cells.length vs) (h : ∀ i, i < cells.length → VR E (gc cells i) (vs i)) :
  VR E (.dp cells off) (.pointer (some ⟨b, o + off, none⟩))
 | dsn (tight : Bool) : VR E (.ds true [] 0 tight) (.slice none 0 0)
 | ds (nl : Bool) (cells : List AV) (len : Nat) (tight : Bool) (a : Addr) (cap : Nat) (vs : Nat → Value) (ha : cells = [] ∨ a.spot = none)
  (hr : Row E.w E.st a.block a.off cells.length vs) (h : ∀ i, i < cells.length → VR E (gc cells i) (vs i)) (hc : len ≤ cap) (ht : tight = true → cap = len) (hB : len ≤ 9223372036854775807) :
  VR E (.ds nl cells len tight) (.slice (some a) len cap)
 | osn (sz id ver off : Nat) (tight : Bool) (a : Option Addr) (hk : E.ok id ver) (h : ∀ ob, E.loc id = some (ver, ob) → ob = none) : VR E (.os true sz id ver off 0 tight) (.slice a 0 0)
 | os (nl : Bool) (sz id ver off len : Nat) (tight : Bool) (a : Addr) (cap : Nat) (hk : E.ok id ver) (hc : len ≤ cap) (ht : tight = true → cap = len) (hB : len ≤ 9223372036854775807)
  (h : ∀ ob, E.loc id = some (ver, ob) → ∃ b, ob = some b ∧ (cap = 0 ∨ a = ⟨b, off, none⟩) ∧ ∃ t m, E.w.shape? b = some (t, m) ∧ tsize t = sz ∧ off + cap * sz ≤ m) :
  VR E (.os nl sz id ver off len tight) (.slice (some a) len cap)
 | mp (id b : Nat) (hk : E.ok id 0) (h : ∀ ob, E.loc id = some (0, ob) → ob = some b) : VR E (.mp id) (.map (some b))
 | nilm : VR E .nilm (.map none)
 | fn (f : Fn) (first cap : List AV) (vf vc : Array Value) (hf : vf.size = first.length) (hc : vc.size = cap.length)
  (h1 : ∀ i, i < first.length → VR E (gc first i) (vf.getD i undef)) (h2 : ∀ i, i < cap.length → VR E (gc cap i) (vc.getD i undef)) : VR E (.fn f first cap) (.func f vf vc)
 | nilF : VR E .nilF .nilFunc
 | ifc (t : TypeId) (a : AV) (v : Value) (h : VR E a v) : VR E (.ifc t a) (.iface t v)
 | nilI : VR E .nilI .nilIface
 | it (id b : Nat) (hk : E.ok id 0) (h : ∀ ob, E.loc id = some (0, ob) → ob = some b) : VR E (.it id) (.pointer (some ⟨b, 0, none⟩))
 | gp (g : Nat) : VR E (.gp g) (.pointer (some ⟨g, 0, none⟩))
structure ExtK (k : Nat) (E E' : Env) : Prop where
 os : E'.w.os = E.w.os
 tape : E'.w.tape = E.w.tape
 output : E'.w.output = E.w.output
 size : E.w.heap.size ≤ E'.w.heap.size
 shape : ∀ b m, E.w.shape? b = some m → E'.w.shape? b = some m
 st : ∀ b, E.st b → E'.st b ∧ E'.w.heap[b]? = E.w.heap[b]?
 n : k ≤ E'.n
 loc : ∀ id, id < k → ∀ ver ob, E'.loc id = some (ver, ob) → ∃ ver0 ob0, E.loc id = some (ver0, ob0) ∧ ver0 ≤ ver ∧ (ver0 = ver → ob0 = ob)
 old : ∀ b, b < E.w.heap.size → (∀ id v, E.loc id ≠ some (v, some b)) → E'.w.heap[b]? = E.w.heap[b]?
 own : ∀ id v b, E'.loc id = some (v, some b) → b < E.w.heap.size → ∃ id' v', E.loc id' = some (v', some b)
 stn : ∀ b, E'.st b → E.st b ∨ E.w.heap.size ≤ b ∨ ∃ id v, E.loc id = some (v, some b)
abbrev Ext (E E' : Env) : Prop := ExtK E.n E E'
theorem ExtK.refl {k : Nat} (E : Env) (h : k ≤ E.n) : ExtK k E E :=
 ⟨rfl, rfl, rfl, Nat.le_refl _, fun _ _ h => h, fun _ h => ⟨h, rfl⟩, h, fun _ _ ver ob h => ⟨ver, ob, h, Nat.le_refl _, fun _ => rfl⟩, fun _ _ _ => rfl, fun id v _ h _ => ⟨id, v, h⟩, fun _ h => .inl h⟩
theorem Ext.refl (E : Env) : Ext E E := ExtK.refl E (Nat.le_refl _)
theorem ExtK.mono {k k' : Nat} {A B : Env} (h : ExtK k A B) (hk : k' ≤ k) : ExtK k' A B :=
 { h with n := Nat.le_trans hk h.n, loc := fun id hid => h.loc id (Nat.lt_of_lt_of_le hid hk) }
theorem ExtK.trans {k : Nat} {A B C : Env} (h : ExtK k A B) (k' : ExtK k B C) : ExtK k A C where
 os := k'.os.trans h.os
 tape := k'.tape.trans h.tape
 output := k'.output.trans h.output
 size := Nat.le_trans h.size k'.size
 shape := fun b m hm => k'.shape b m (h.shape b m hm)
 st := fun b hb => ⟨(k'.st b (h.st b hb).1).1, (k'.st b (h.st b hb).1).2.trans (h.st b hb).2⟩
 n := k'.n
 loc := fun id hid ver ob hl => by
  obtain ⟨v1, o1, h1, l1, e1⟩ := k'.loc id hid ver ob hl
  obtain ⟨v0, o0, h0, l0, e0⟩ := h.loc id hid v1 o1 h1
  refine ⟨v0, o0, h0, Nat.le_trans l0 l1, fun he => ?_⟩
  have : v0 = v1 := by omega
  rw [e0 this, e1 (by omega)]
 old := fun b hb hn => by
  rw [k'.old b (Nat.lt_of_lt_of_le hb h.size) fun id v hl => by
   obtain ⟨id', v', h'⟩ := h.own id v b hl hb
   exact hn id' v' h']
  exact h.old b hb hn
 own := fun id v b hl hb => by
  obtain ⟨id', v', h'⟩ := k'.own id v b hl (Nat.lt_of_lt_of_le hb h.size)
  exact h.own id' v' b h' hb
 stn := fun b hb => by
  rcases k'.stn b hb with h1 | h1 | ⟨id, v, h1⟩
  · exact h.stn b h1
  · exact .inr (.inl (Nat.le_trans h.size h1))
  · by_cases hlt : b < A.w.heap.size
    · exact .inr (.inr (h.own id v b h1 hlt))
    · exact .inr (.inl (Nat.le_of_not_lt hlt))
theorem Ext.trans {A B C : Env} (h : Ext A B) (k : Ext B C) : Ext A C := ExtK.trans h (k.mono h.n)
theorem cell_of_heap {w w' : World} {b o : Nat} (h : w'.heap[b]? = w.heap[b]?) : w'.cell? ⟨b, o, none⟩ = w.cell? ⟨b, o, none⟩ := by
 simp only [World.cell?, h]
structure ExtV (E E' : Env) : Prop where
 shape : ∀ b m, E.w.shape? b = some m → E'.w.shape? b = some m
 st : ∀ b, E.st b → E'.st b ∧ E'.w.heap[b]? = E.w.heap[b]?
 n : E.n ≤ E'.n
 loc : ∀ id, id < E.n → ∀ ver ob, E'.loc id = some (ver, ob) → ∃ ver0 ob0, E.loc id = some (ver0, ob0) ∧ ver0 ≤ ver ∧ (ver0 = ver → ob0 = ob)
theorem Ext.toV {E E' : Env} (h : Ext E E') : ExtV E E' := ⟨h.shape, h.st, h.n, h.loc⟩
theorem Row.extV {E E' : Env} (hx : ExtV E E') {b o m : Nat} {vs : Nat → Value} (h : Row E.w E.st b o m vs) : Row E'.w E'.st b o m vs := by
 rcases h with h | ⟨hs, hc⟩
 · exact .inl h
 · exact .inr ⟨(hx.st b hs).1, fun i hi => (cell_of_heap (hx.st b hs).2).trans (hc i hi)⟩
theorem Env.ok.extV {E E' : Env} (hx : ExtV E E') {id ver : Nat} (h : E.ok id ver) : E'.ok id ver :=
 ⟨Nat.lt_of_lt_of_le h.1 hx.n, fun v ob hl => by
  obtain ⟨v0, o0, h0, l0, _⟩ := hx.loc id h.1 v ob hl
  exact Nat.le_trans (h.2 v0 o0 h0) l0⟩
theorem ExtV.back {E E' : Env} (hx : ExtV E E') {id ver : Nat} (hk : E.ok id ver) {ob : Option Nat} (h : E'.loc id = some (ver, ob)) : E.loc id = some (ver, ob) := by
 obtain ⟨v0, o0, h0, l0, e0⟩ := hx.loc id hk.1 ver ob h
 have : ver ≤ v0 := hk.2 v0 o0 h0
 have hv : v0 = ver := by omega
 subst hv
 rw [h0, e0 rfl]
theorem VR.extV {E E' : Env} (hx : ExtV E E') {a : AV} {v : Value} (h : VR E a v) : VR E' a v := by
 induction h with
 | u v => exact .u v
 | bool b => exact .bool b
 | int k n => exact .int k n
 | str l s h => exact .str l s h
 | agg cs vs hl _ ih => exact .agg cs vs hl ih
 | tup cs vs hl _ ih => exact .tup cs vs hl ih
 | nilp => exact .nilp
 | op id ver off a hk h => exact .op id ver off a (hk.extV hx) fun b hb => h b (hx.back hk hb)
 | dp cells off b o vs hr _ ih => exact .dp cells off b o vs (hr.extV hx) ih
 | dsn t => exact .dsn t
 | ds nl cells len t a cap vs ha hr _ hc ht hB ih => exact .ds nl cells len t a cap vs ha (hr.extV hx) ih hc ht hB
 | osn sz id ver off t a hk h => exact .osn sz id ver off t a (hk.extV hx) fun ob hb => h ob (hx.back hk hb)
 | os nl sz id ver off len t a cap hk hc ht hB h =>
  refine .os nl sz id ver off len t a cap (hk.extV hx) hc ht hB fun ob hb => ?_
  obtain ⟨b, e1, e2, t', m, hs, hm⟩ := h ob (hx.back hk hb)
  exact ⟨b, e1, e2, t', m, hx.shape _ _ hs, hm⟩
 | mp id b hk h => exact .mp id b (hk.extV hx) fun ob hb => h ob (hx.back hk hb)
 | nilm => exact .nilm
 | fn f first cap vf vc hf hc _ _ i1 i2 => exact .fn f first cap vf vc hf hc i1 i2
 | nilF => exact .nilF
 | ifc t a v _ ih => exact .ifc t a v ih
 | nilI => exact .nilI
 | it id b hk h => exact .it id b (hk.extV hx) fun ob hb => h ob (hx.back hk hb)
 | gp g => exact .gp g
theorem Row.ext {E E' : Env} (hx : Ext E E') {b o m : Nat} {vs : Nat → Value} (h : Row E.w E.st b o m vs) : Row E'.w E'.st b o m vs := h.extV hx.toV
theorem Env.ok.ext {E E' : Env} (hx : Ext E E') {id ver : Nat} (h : E.ok id ver) : E'.ok id ver := h.extV hx.toV
theorem Ext.back {E E' : Env} (hx : Ext E E') {id ver : Nat} (hk : E.ok id ver) {ob : Option Nat} (h : E'.loc id = some (ver, ob)) : E.loc id = some (ver, ob) := hx.toV.back hk h
theorem VR.ext {E E' : Env} (hx : Ext E E') {a : AV} {v : Value} (h : VR E a v) : VR E' a v := h.extV hx.toV
inductive AObj where
 | cells (ver : Nat) (cs : List AV)
 | map (es : List (AV × AV))
 | iter (s : List UInt8) (pos : Nat)
 | dead
 deriving Inhabited
abbrev Store := List AObj
structure Blk (E : Env) (b : Nat) (cs : List AV) : Prop where
 blk : ∃ conc t fr, E.w.heap[b]? = some (.cells conc t fr) ∧ (fr.1 = fr.2 ∨ (conc.size ≤ fr.1 ∧ tsize t = 1)) ∧ cs.length ≤ conc.size ∧ ∀ i, i < cs.length → VR E (gc cs i) (conc.getD i undef)
def ObjR (E : Env) (id : Nat) : Option AObj → Prop
 | some (.cells ver cs) => (∃ b, E.loc id = some (ver, some b) ∧ Blk E b cs) ∨ (cs = [] ∧ E.loc id = some (ver, none))
 | some (.map es) => ∃ b ents clock, E.loc id = some (0, some b) ∧ E.w.heap[b]? = some (.map ents clock) ∧ ents.size = es.length ∧
  ∀ i (h : i < es.length) (h' : i < ents.size), VR E es[i].1 ents[i].key ∧ VR E es[i].2 ents[i].val
 | some (.iter s pos) => ∃ b, E.loc id = some (0, some b) ∧ E.w.heap[b]? = some (.stringIter ⟨s.toArray⟩ pos)
 | some .dead => E.loc id = none
 | none => E.loc id = none
structure SR (E : Env) (σ : Store) : Prop where
 len : σ.length = E.n
 obj : ∀ id, ObjR E id σ[id]?
 inj : ∀ id id' v v' b, E.loc id = some (v, some b) → E.loc id' = some (v', some b) → id = id'
 blk : ∀ id v b, E.loc id = some (v, some b) → b < E.w.heap.size ∧ ¬ E.st b
 stb : ∀ b, E.st b → b < E.w.heap.size
 glb : Glb E.w E.st
theorem VR.getRow {E : Env} {cells : List AV} {b o : Nat} {vs : Nat → Value} (h : ∀ i, i < cells.length → VR E (gc cells i) (vs i)) (hr : Row E.w E.st b o cells.length vs) (i : Nat) (hi : i < cells.length) :
 ∃ v, E.w.cell? ⟨b, o + i, none⟩ = some v ∧ VR E (gc cells i) v := by
 rcases hr with hr | ⟨_, hc⟩
 · omega
 · exact ⟨vs i, hc i hi, h i hi⟩
theorem Blk.cell {E : Env} {b : Nat} {cs : List AV} (h : Blk E b cs) (i : Nat) (hi : i < cs.length) : ∃ v, E.w.cell? ⟨b, i, none⟩ = some v ∧ VR E (gc cs i) v := by
 obtain ⟨conc, t, fr, hb, _, hl, hv⟩ := h.blk
 refine ⟨conc.getD i undef, ?_, hv i hi⟩
 simp only [World.cell?, hb, Option.isSome_none, Bool.false_eq_true, if_false]
 simp [Array.getElem?_eq_getElem (show i < conc.size by omega)]
theorem Blk.frozen {E : Env} {b : Nat} {cs : List AV} (h : Blk E b cs) (i : Nat) (hi : i < cs.length) : E.w.frozen? ⟨b, i, none⟩ = false := by
 obtain ⟨conc, t, fr, hb, hf, hl, hv⟩ := h.blk
 obtain ⟨lo, hi'⟩ := fr
 simp only [World.frozen?, hb]
 simp only [Bool.and_eq_false_iff, decide_eq_false_iff_not]
 simp only at hf
 omega
end AM
end Go.Proofs.YtaddlmlpeghonaaDoor
