import Derived.Test.YtaddlmlpeghonaaDoorUBu
set_option linter.unusedSimpArgs false
set_option linter.unusedVariables false
set_option linter.constructorNameAsVariable false
namespace Go.Proofs.YtaddlmlpeghonaaDoor
namespace AM
open Go.RowKit
structure Enc (T : TT) (t e sz : Nat) {α : Type} (enc : α → List AV) : Prop where
 sl : ∃ i, T t = some i ∧ i.desc = .slice e
 el : ∃ j, T e = some j ∧ j.size = sz
 pos : 0 < sz
 len : ∀ x, (enc x).length = sz
section
variable {T : TT} {t e sz : Nat} {α : Type} {enc : α → List AV}
theorem zo (h : ∀ x, (enc x).length = sz) (l : List α) : (l.flatMap enc).length = l.length * sz := by
 induction l with
 | nil => simp
 | cons x l ih => rw [List.flatMap_cons, List.length_append, ih, h, List.length_cons, Nat.succ_mul]; omega
theorem enc_drop (h : ∀ x, (enc x).length = sz) (l : List α) (i : Nat) : (l.flatMap enc).drop (i * sz) = (l.drop i).flatMap enc := by
 induction l generalizing i with
 | nil => simp
 | cons x l ih =>
  cases i with
  | zero => simp
  | succ i =>
   rw [Nat.succ_mul, Nat.add_comm, ← List.drop_drop, List.flatMap_cons, ← h x, List.drop_left, h x, ih, List.drop_succ_cons]
theorem enc_take (h : ∀ x, (enc x).length = sz) (l : List α) (i : Nat) : (l.flatMap enc).take (i * sz) = (l.take i).flatMap enc := by
 induction l generalizing i with
 | nil => simp
 | cons x l ih =>
  cases i with
  | zero => simp
  | succ i =>
   have e : (i + 1) * sz = (enc x).length + i * sz := by rw [h, Nat.succ_mul]; omega
   rw [List.flatMap_cons, e, List.take_length_add_append, ih, List.take_succ_cons, List.flatMap_cons]
theorem enc_get (h : ∀ x, (enc x).length = sz) {l : List α} {i : Nat} (hi : i < l.length) : ((l.flatMap enc).drop (i * sz)).take sz = enc l[i] := by
 rw [enc_drop h, List.drop_eq_getElem_cons hi, List.flatMap_cons, ← h l[i], List.take_left]
theorem enc_gc (h : ∀ x, (enc x).length = sz) {l : List α} {i o : Nat} (hi : i < l.length) (ho : o < sz) : gc (l.flatMap enc) (i * sz + o) = gc (enc l[i]) o := by
 have h1 := enc_get h hi
 have h2 : gc (((l.flatMap enc).drop (i * sz)).take sz) o = gc (l.flatMap enc) (i * sz + o) := by
  simp only [gc, List.getD_eq_getElem?_getD, List.getElem?_take, List.getElem?_drop, ho, if_true]
 rw [← h2, h1]
theorem Enc.idx (h : Enc T t e sz enc) {l : List α} {k : Int} (h0 : 0 ≤ k) (h1 : k < l.length) (nl tt : Bool) (q : IntKind) :
 evIndexAddr T t (.ds nl (l.flatMap enc) l.length tt) (.int q k) = some (.dp (l.flatMap enc) (k.toNat * sz)) := by
 obtain ⟨i, hi, hd⟩ := h.sl
 obtain ⟨j, hj, hs⟩ := h.el
 have h2 : k.toNat * sz < (l.flatMap enc).length := by
  rw [zo h.len]
  have : k.toNat < l.length := by omega
  exact Nat.mul_lt_mul_of_lt_of_le this (Nat.le_refl _) h.pos
 simp only [evIndexAddr, hi, hd, hj, hs]
 rw [if_pos ⟨h0, h1, h2⟩]
theorem Enc.idxo (h : Enc T t e sz enc) {len : Nat} {k : Int} (h0 : 0 ≤ k) (h1 : k < len) (nl tt : Bool) (q : IntKind) (sz' id ver off : Nat) :
 evIndexAddr T t (.os nl sz' id ver off len tt) (.int q k) = some (.op id ver (off + k.toNat * sz)) := by
 obtain ⟨i, hi, hd⟩ := h.sl
 obtain ⟨j, hj, hs⟩ := h.el
 simp only [evIndexAddr, hi, hd, hj, hs]
 rw [if_pos ⟨h0, h1⟩]
theorem evRd_enc (h : ∀ x, (enc x).length = sz) {l : List α} {i : Nat} (hi : i < l.length) : evRd (l.flatMap enc) (i * sz) sz true = some (.agg (enc l[i])) := by
 have : i * sz + sz ≤ (l.flatMap enc).length := by
  rw [zo h, ← Nat.succ_mul]; exact Nat.mul_le_mul_right _ hi
 simp only [evRd, if_true]
 rw [if_pos this, enc_get h hi]
theorem evRd_fld (h : ∀ x, (enc x).length = sz) {l : List α} {i o n : Nat} (hi : i < l.length) (ho : o < sz) : evRd (l.flatMap enc) (i * sz + o) n false = some (gc (enc l[i]) o) := by
 have : i * sz + o < (l.flatMap enc).length := by
  rw [zo h]
  have : i * sz + sz ≤ l.length * sz := by rw [← Nat.succ_mul]; exact Nat.mul_le_mul_right _ hi
  omega
 simp only [evRd, Bool.false_eq_true, if_false]
 rw [if_pos this, enc_gc h hi ho]
theorem Enc.load (h : Enc T t e sz enc) {j : TI} (hj : T e = some j) (hag : j.agg = true) {l : List α} {i : Nat} (hi : i < l.length) (σ : Store) : evLoad T e (.dp (l.flatMap enc) (i * sz)) σ = some (.agg (enc l[i])) := by
 obtain ⟨j', hj', hs⟩ := h.el
 rw [hj] at hj'; cases hj'
 simp only [evLoad, hj, hag, hs]
 exact evRd_enc h.len hi
theorem Enc.fld (h : Enc T t e sz enc) {f : Nat} {j : TI} (hj : T f = some j) (hag : j.agg = false) {l : List α} {i o : Nat} (hi : i < l.length) (ho : o < sz) (σ : Store) : evLoad T f (.dp (l.flatMap enc) (i * sz + o)) σ = some (gc (enc l[i]) o) := by
 simp only [evLoad, hj, hag]
 exact evRd_fld h.len hi ho
end
theorem srcCells_enc {sz : Nat} {α : Type} {enc : α → List AV} (h : ∀ x, (enc x).length = sz) (l : List α) (nl tt : Bool) (σ : Store) : srcCells σ sz (.ds nl (l.flatMap enc) l.length tt) = some (l.length, l.flatMap enc) := by
 simp only [srcCells, zo h, Nat.le_refl, if_true]
 rw [List.take_of_length_le (by rw [zo h]; exact Nat.le_refl _)]
theorem Enc.app {T : TT} {t e sz : Nat} {α : Type} {enc : α → List AV} (h : Enc T t e sz enc) (ho : ∀ x, (enc x).all AV.one = true) {j : TI} (hj : T e = some j) (hb : 0 < j.bytes) (l : List α) (s : AV) (hn : (lenOfAV s + l.length) * j.bytes ≤ 140737488355328) (nl tt : Bool) (σ : Store) :
 evAppend T t t s (.ds nl (l.flatMap enc) l.length tt) σ = evAppendTo sz s l.length (l.flatMap enc) σ := by
 obtain ⟨i, hi, hd⟩ := h.sl
 obtain ⟨j', hj', hs⟩ := h.el
 rw [hj] at hj'; cases hj'
 have h1 : (l.flatMap enc).all AV.one = true := by
  rw [List.all_flatMap]
  exact List.all_eq_true.2 fun x _ => ho x
 simp only [evAppend, hi, hd, hj, hs, srcCells_enc h.len]
 rw [if_pos ⟨hn, hb, h.pos, h1⟩]
theorem Enc.fld0 {T : TT} {t e sz : Nat} {α : Type} {enc : α → List AV} (h : Enc T t e sz enc) {f : Nat} {j : TI} (hj : T f = some j) (hag : j.agg = false) {l : List α} {i : Nat} (hi : i < l.length) (σ : Store) : evLoad T f (.dp (l.flatMap enc) (i * sz)) σ = some (gc (enc l[i]) 0) := by
 have := h.fld hj hag hi h.pos σ
 rwa [Nat.add_zero] at this
theorem enc_rd0 {sz : Nat} {α : Type} {enc : α → List AV} (h : ∀ x, (enc x).length = sz) {l : List α} {k n : Nat} (hk : k < l.length) (ho : 0 < sz) : evRd (l.flatMap enc) (k * sz) n false = some (gc (enc l[k]) 0) := by
 have := evRd_fld (n := n) h hk ho
 rwa [Nat.add_zero] at this
def encI (n : Int) : List AV := [.int .i64 n]
def encS (s : List UInt8) : List AV := [.str s]
def encB (b : UInt8) : List AV := [.int .u8 b.toNat]
theorem bys_flatMap (l : List UInt8) : bys l = l.flatMap encB := by
 induction l with
 | nil => rfl
 | cons b l ih => rw [List.flatMap_cons, ← ih]; rfl
theorem i64_in {x : Int} (h : -9223372036854775808 ≤ x) (h' : x < 9223372036854775808) : IntKind.i64.wrap x = x := wrap64_in h h'
section
variable {σ : Store} {keep : List Nat} {ls : Bool} {f : Nat}
theorem tell_u : tell σ keep ls (f + 1) .u = .u := rfl
theorem tell_bool {b : Bool} : tell σ keep ls (f + 1) (.bool b) = .bool b := rfl
theorem tell_int {k : IntKind} {n : Int} : tell σ keep ls (f + 1) (.int k n) = .int k n := rfl
theorem tell_str {s : List UInt8} : tell σ keep ls (f + 1) (.str s) = .str s := rfl
theorem tell_nilp : tell σ keep ls (f + 1) .nilp = .nilp := rfl
theorem tell_nilm : tell σ keep ls (f + 1) .nilm = .nilm := rfl
theorem tell_nilI : tell σ keep ls (f + 1) .nilI = .nilI := rfl
theorem tell_nilF : tell σ keep ls (f + 1) .nilF = .nilF := rfl
theorem tell_agg {l : List AV} : tell σ keep ls (f + 1) (.agg l) = .agg (l.map (tell σ keep ls f)) := rfl
theorem tell_tup {l : List AV} : tell σ keep ls (f + 1) (.tup l) = .tup (l.map (tell σ keep ls f)) := rfl
theorem tell_ifc {t : TypeId} {a : AV} : tell σ keep ls (f + 1) (.ifc t a) = .ifc t (tell σ keep ls f a) := rfl
theorem tell_ds {nl : Bool} {cs : List AV} {len : Nat} {t : Bool} : tell σ keep ls (f + 1) (.ds nl cs len t) = .ds (nl || ls) (cs.map (tell σ keep ls f)) len (t && !ls) := rfl
theorem tell_dp {cs : List AV} {off : Nat} : tell σ keep ls (f + 1) (.dp cs off) = .dp (cs.map (tell σ keep ls f)) off := rfl
theorem tell_op {id ver off : Nat} : tell σ keep ls (f + 1) (.op id ver off) = match idxOf keep id 0 with
 | some j => .op j ver off
 | none => match Store.at σ id ver with
  | some (c :: cs) => .dp ((c :: cs).map (tell σ keep ls f)) off
  | _ => .u := rfl
theorem tell_os {nl : Bool} {sz id ver off len : Nat} {t : Bool} : tell σ keep ls (f + 1) (.os nl sz id ver off len t) = match idxOf keep id 0 with
 | some j => .os nl sz j ver off len t
 | none => match Store.at σ id ver with
  | some cs => if off + len * sz ≤ cs.length then .ds true (((cs.drop off).take (len * sz)).map (tell σ keep ls f)) len false else .u
  | none => .u := rfl
theorem tell_mp {id : Nat} : tell σ keep ls (f + 1) (.mp id) = match idxOf keep id 0 with
 | some j => .mp j
 | none => .u := rfl
theorem idxOf_nil {id j : Nat} : idxOf [] id j = none := rfl
theorem idxOf_cons {x : Nat} {l : List Nat} {id j : Nat} : idxOf (x :: l) id j = if x = id then some j else idxOf l id (j + 1) := rfl
theorem tellS_nil : tellS σ [] ls f = [] := rfl
theorem tellS_cons {id : Nat} : tellS σ (id :: keep) ls f = tellObj σ (id :: keep) ls f (σ.getD id .dead) :: keep.map fun i => tellObj σ (id :: keep) ls f (σ.getD i .dead) := rfl
theorem tellO_cells {ver : Nat} {cs : List AV} : tellObj σ keep ls f (.cells ver cs) = .cells ver (cs.map (tell σ keep ls f)) := rfl
theorem tellO_map {es : List (AV × AV)} : tellObj σ keep ls f (.map es) = .map (es.map fun e => (tell σ keep ls f e.1, tell σ keep ls f e.2)) := rfl
theorem tellO_iter {s : List UInt8} {p : Nat} : tellObj σ keep ls f (.iter s p) = .iter s p := rfl
theorem tellO_dead : tellObj σ keep ls f .dead = .dead := rfl
theorem store_get0 {o : AObj} {s : Store} : List.getD (o :: s) 0 .dead = o := rfl
theorem store_getS {o : AObj} {s : Store} {i : Nat} : List.getD (o :: s) (i + 1) AObj.dead = s.getD i .dead := by simp
end
end AM
end Go.Proofs.YtaddlmlpeghonaaDoor
