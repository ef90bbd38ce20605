import Derived.Test.YtaddlmlpeghonaaDoorUBe
set_option linter.unusedSimpArgs false
set_option linter.unusedVariables false
set_option linter.constructorNameAsVariable false
namespace Go.Proofs.YtaddlmlpeghonaaDoor
namespace AM
open Go.RowKit
def srcCells (σ : Store) (size : Nat) : AV → Option (Nat × List AV)
 | .ds _ cells len _ => if len * size ≤ cells.length then some (len, cells.take (len * size)) else none
 | .os _ _ id ver off len _ => match Store.at σ id ver with
  | some cs => if off + len * size ≤ cs.length then some (len, (cs.drop off).take (len * size)) else none
  | none => none
 | .str s => if size = 1 then some (s.length, bys s) else none
 | _ => none
def Told (E : Env) (vs : Array Value) (cs : List AV) : Prop := vs.size = cs.length ∧ ∀ i, i < cs.length → VR E (gc cs i) (vs.getD i undef)
theorem gc_take (cs : List AV) (n i : Nat) (h : i < n) : gc (cs.take n) i = gc cs i := by
 simp only [gc, List.getD_eq_getElem?_getD, List.getElem?_take, h, if_true]
theorem Told.take {E : Env} {vs : Array Value} {cs : List AV} (h : Told E vs cs) (n : Nat) : Told E (vs.extract 0 n) (cs.take n) := by
 refine ⟨by simp [h.1], fun i hi => ?_⟩
 have hi' : i < n ∧ i < cs.length := by simp at hi; omega
 rw [gc_take _ _ _ hi'.1]
 have : (vs.extract 0 n).getD i undef = vs.getD i undef := by
  simp only [Array.getD_eq_getD_getElem?, Array.getElem?_extract]
  rw [if_pos (by have := h.1; omega), Nat.zero_add]
 rw [this]; exact h.2 i hi'.2
theorem run_loadCells_told {P : Program} {E : Env} {b o off n : Nat} {cs : List AV} (hc : ∀ j, j < n → ∃ v, E.w.cell? ⟨b, o + j, none⟩ = some v ∧ VR E (gc cs (off + j)) v) (hl : off + n ≤ cs.length) :
 ∃ vs, (loadCells ⟨b, o, none⟩ n).run P E.w = .ok vs E.w ∧ Told E vs ((cs.drop off).take n) := by
 have hf : ∀ j, ∃ v, j < n → E.w.cell? ⟨b, o + j, none⟩ = some v ∧ VR E (gc cs (off + j)) v := by
  intro j
  by_cases hj : j < n
  · obtain ⟨v, hv⟩ := hc j hj; exact ⟨v, fun _ => hv⟩
  · exact ⟨undef, fun h => absurd h hj⟩
 obtain ⟨f, hf⟩ := Classical.skolem.1 hf
 refine ⟨((List.range n).map f).toArray, run_loadCells E.w ⟨b, o, none⟩ n f (fun j hj => by rw [add_plain]; exact (hf j hj).1), by simp; omega, fun j hj => ?_⟩
 have hj' : j < n := by simp at hj; omega
 rw [gc_drop_take _ _ _ _ hj' hl]
 have : (((List.range n).map f).toArray).getD j undef = f j := by simp [hj']
 rw [this]; exact (hf j hj').2
theorem Told.nil (E : Env) : Told E #[] [] := ⟨rfl, fun i hi => absurd hi (by simp)⟩
theorem gc_bys (l : List UInt8) (i : Nat) (h : i < l.length) : gc (bys l) i = .int .u8 (l[i].toNat) := gc_map _ _ _ h
theorem run_src {P : Program} {E : Env} {σ : Store} (hS : SR E σ) {size : Nat} {x : AV} {vx : Value} (hx : VR E x vx) {n : Nat} {cs : List AV} (h : srcCells σ size x = some (n, cs)) :
 (Builtin.lenOf vx).run P E.w = .ok n E.w ∧ cs.length = n * size ∧ ∀ m, m ≤ n → ∃ vs, (Builtin.firstCells size m vx).run P E.w = .ok vs E.w ∧ Told E vs (cs.take (m * size)) := by
 unfold srcCells at h
 split at h
 · rename_i nl cells len tight
   split at h
   · rename_i hle
     cases h
     cases hx with
     | dsn => exact ⟨rfl, by simp, fun m hm => ⟨#[], rfl, by simp; exact Told.nil E⟩⟩
     | ds _ _ _ _ a cap vs ha hr hv hc ht hB =>
      refine ⟨rfl, by simp; omega, fun m hm => ?_⟩
      have hmul : m * size ≤ n * size := Nat.mul_le_mul_right _ hm
      have htake : (cells.take (n * size)).take (m * size) = (cells.drop 0).take (m * size) := by rw [List.take_take, List.drop_zero]; congr 1; omega
      rw [htake]
      by_cases hz : m * size = 0
      · refine ⟨#[], ?_, by rw [hz]; simp; exact Told.nil E⟩
        show (loadCells a (m * size)).run P E.w = _
        rw [hz]; rfl
      · have hne : cells ≠ [] := by intro e; subst e; simp at hle; omega
        have hsp := ha.resolve_left hne
        obtain ⟨vs', h1, h2⟩ := run_loadCells_told (P := P) (E := E) (b := a.block) (o := a.off) (off := 0) (n := m * size) (cs := cells) (fun j hj => by
         obtain ⟨v, h1, h2⟩ := VR.getRow hv hr j (by omega)
         exact ⟨v, h1, by rw [Nat.zero_add]; exact h2⟩) (by omega)
        refine ⟨vs', ?_, h2⟩
        show (loadCells a (m * size)).run P E.w = _
        rw [addr_eta a hsp]; exact h1
   · cases h
 · rename_i nl sz id ver off len tight
   split at h
   · rename_i cs0 hcs
     split at h
     · rename_i hle
       cases h
       cases hx with
       | osn _ _ _ _ _ a0 hk hn =>
        refine ⟨rfl, by simp, fun m hm => ⟨#[], ?_, by simp; exact Told.nil E⟩⟩
        obtain rfl : m = 0 := by omega
        cases a0 with
        | none => rfl
        | some a =>
         show (loadCells a (0 * size)).run P E.w = _
         rw [Nat.zero_mul]; rfl
       | os _ _ _ _ _ _ _ a cap hk hc ht hB hp =>
        refine ⟨rfl, by simp; omega, fun m hm => ?_⟩
        have hmul : m * size ≤ n * size := Nat.mul_le_mul_right _ hm
        have htake : ((cs0.drop off).take (n * size)).take (m * size) = (cs0.drop off).take (m * size) := by rw [List.take_take]; congr 1; omega
        rw [htake]
        by_cases hz : m * size = 0
        · refine ⟨#[], ?_, by rw [hz]; simp; exact Told.nil E⟩
          show (loadCells a (m * size)).run P E.w = _
          rw [hz]; rfl
        · obtain ⟨b, hl, hb⟩ := hS.block_of hcs (show off < cs0.length by omega)
          obtain ⟨b', e1, e2, _⟩ := hp _ hl
          cases e1
          have hm0 : m ≠ 0 := by intro e; subst e; simp at hz
          have := e2.resolve_left (by omega)
          subst this
          obtain ⟨vs', h1, h2⟩ := run_loadCells_told (P := P) (E := E) (b := b) (o := off) (off := off) (n := m * size) (cs := cs0) (fun j hj => hb.cell (off + j) (by omega)) (by omega)
          exact ⟨vs', h1, h2⟩
     · cases h
   · cases h
 · rename_i s
   split at h
   · rename_i hsz
     subst hsz
     cases h
     cases hx with | str _ b hb =>
     subst hb
     have hl : b.data.toList.length = b.size := by rw [Array.length_toList]; rfl
     refine ⟨by rw [hl]; rfl, by simp [length_bys], fun m hm => ⟨(b.extract 0 m).data.map fun b => .int .u8 b.toNat, rfl, ?_⟩⟩
     rw [hl] at hm
     have hd : (b.extract 0 m).data.toList = b.data.toList.take m := by simp
     have hsz : (b.extract 0 m).data.size = m := by rw [← Array.length_toList, hd]; simp; omega
     refine ⟨by simp only [Array.size_map, hsz, List.length_take, length_bys]; omega, fun i hi => ?_⟩
     have hi' : i < m := by simp [length_bys] at hi; omega
     rw [Nat.mul_one, gc_take _ _ _ hi', gc_bys _ _ (by omega)]
     have h1 : i < (b.extract 0 m).data.size := by omega
     have : ((b.extract 0 m).data.map fun b => Value.int .u8 b.toNat).getD i undef = .int .u8 (b.data.toList[i]'(by omega)).toNat := by
      simp only [Array.getD_eq_getD_getElem?, Array.getElem?_map, Array.getElem?_eq_getElem h1, Option.map_some, Option.getD_some]
      have : (b.extract 0 m).data[i] = (b.extract 0 m).data.toList[i]'(by rw [Array.length_toList]; exact h1) := by simp
      rw [this]
      congr 2
      simp only [hd]
      simp
     rw [this]; exact .int _ _
   · cases h
 · cases h
def evLen (T : TT) (t : TypeId) (x : AV) (σ : Store) : Option AV :=
 match T t with
 | some i =>
  match i.desc, x with
  | .slice _, .ds _ _ len _ => some (.int .i64 len)
  | .slice _, .os _ _ _ _ _ len _ => some (.int .i64 len)
  | .string, .str s => some (.int .i64 s.length)
  | .map _ _, .nilm => some (.int .i64 0)
  | .map _ _, .mp id => match σ[id]? with
   | some (.map es) => some (.int .i64 es.length)
   | _ => none
  | .array n _, _ => some (.int .i64 n)
  | _, _ => none
 | none => none
theorem run_evLen {P : Program} {T : TT} (hT : TOK P T) {E : Env} {σ : Store} (hS : SR E σ) {t ty : TypeId} {x : AV} {vx : Value} (hx : VR E x vx) {r : AV} (h : evLen T t x σ = some r) :
 Out P E (Builtin.len_ #[t] ty #[vx]) r σ := by
 unfold evLen at h
 split at h
 · rename_i i hi
   split at h
   · rename_i hd
     cases h
     cases hx with
     | dsn => exact .same hS (by simp [Builtin.len_, zq _ (hT _ _ hi), hd]; rfl) (.int _ _)
     | ds => exact .same hS (by simp [Builtin.len_, zq _ (hT _ _ hi), hd]; rfl) (.int _ _)
   · rename_i hd
     cases h
     cases hx with
     | osn => exact .same hS (by simp [Builtin.len_, zq _ (hT _ _ hi), hd]; rfl) (.int _ _)
     | os => exact .same hS (by simp [Builtin.len_, zq _ (hT _ _ hi), hd]; rfl) (.int _ _)
   · rename_i hd
     cases h
     cases hx with | str _ s hs =>
     subst hs
     refine .same hS (by simp [Builtin.len_, zq _ (hT _ _ hi), hd]; rfl) ?_
     rw [Array.length_toList]
     exact .int _ _
   · rename_i hd
     cases h
     cases hx
     exact .same hS (by simp [Builtin.len_, zq _ (hT _ _ hi), hd]; rfl) (.int _ _)
   · rename_i id hd
     split at h
     · rename_i es hes
       cases h
       cases hx with | mp _ b hk hp =>
       have := hS.obj id
       rw [hes] at this
       obtain ⟨b', ents, clock, h1, h2, h3, _⟩ := this
       have := hp _ h1
       cases this
       refine .same hS (cv := .int .i64 ents.size) ?_ (by rw [h3]; exact .int _ _)
       simp [Builtin.len_, zq _ (hT _ _ hi), hd, getObj, Sem.run, h2]
       rfl
     · cases h
   · rename_i n e hd
     cases h
     exact .same hS (by simp [Builtin.len_, zq _ (hT _ _ hi), hd]; rfl) (.int _ _)
   · cases h
 · cases h
def zeroRun (zc : List AV) (m : Nat) : List AV := (List.range m).map fun i => gc zc (i % zc.length)
theorem gc_zeroRun (zc : List AV) (m i : Nat) (h : i < m) : gc (zeroRun zc m) i = gc zc (i % zc.length) := by
 unfold zeroRun
 rw [gc_map _ _ _ (by simpa using h)]
 simp
theorem zeroRun_one (z : AV) (m : Nat) : zeroRun [z] m = List.replicate m z := by
 apply List.ext_getElem?
 intro i
 by_cases h : i < m
 · simp [zeroRun, h, gc]; simp [Nat.mod_one]
 · simp [zeroRun, h]
theorem told_zero {E : Env} {zero : AV} {z : Value} (hz : VR E zero z) (ho : zero.okc = true) (hp : 0 < zero.cells.length) (m : Nat) :
 Told E ((Array.range m).map fun i => z.cells[i % z.cells.size]!) (zeroRun zero.cells m) := by
 obtain ⟨hs, hv⟩ := hz.cellsOf ho
 refine ⟨by simp [zeroRun], fun i hi => ?_⟩
 have hi' : i < m := by simpa [zeroRun] using hi
 rw [gc_zeroRun _ _ _ hi']
 have hlt : i % zero.cells.length < zero.cells.length := Nat.mod_lt _ hp
 have : ((Array.range m).map fun i => z.cells[i % z.cells.size]!).getD i undef = z.cells.getD (i % zero.cells.length) undef := by
  have hlt' : i % zero.cells.length < z.cells.size := by omega
  simp only [Array.getD_eq_getD_getElem?, Array.getElem?_map, Array.getElem?_range, if_pos hi', Option.map_some, Option.getD_some, hs]
  rw [getElem!_pos z.cells _ hlt', Array.getElem?_eq_getElem hlt']; rfl
 rw [this]; exact hv _ hlt
theorem run_newRow_told {P : Program} {E : Env} {σ : Store} (hS : SR E σ) {vs : Array Value} {cs : List AV} (ht : Told E vs cs) (e : TypeId) :
 ∃ E', (Go.newRow e vs).run P E.w = .ok ⟨E.w.heap.size, 0, none⟩ E'.w ∧ SR E' (σ ++ [.cells 0 cs]) ∧ Ext E E' ∧ E'.ok σ.length 0 ∧ E'.loc σ.length = some (0, some E.w.heap.size) ∧
  E'.w.shape? E.w.heap.size = some (e, vs.size) := by
 obtain ⟨hS', hx'⟩ := hS.newRow vs e cs (by rw [ht.1]; exact Nat.le_refl _) ht.2
 refine ⟨_, ?_, hS', hx', Env.ok_new hS _ _, Env.loc_new hS _ _, ?_⟩
 · simp only [Go.newRow, Sem.run_bind, run_newObj, Result.andThen_ok, Sem.run_pure]; rfl
 · simp only [Env.new, World.shape?, heap_push_new]
theorem map_none (a b : Array Value) : ((Array.range 0).map fun i => a[i % a.size]!) = (Array.range 0).map fun i => b[i % b.size]! := by simp
def evMake (T : TT) (t : TypeId) (len cap : AV) (σ : Store) : Option (AV × Store) :=
 match T t, len, cap with
 | some i, .int _ l, .int _ c => match i.desc with
  | .slice e => match T e with
   | some j =>
    if 0 ≤ l ∧ l ≤ c ∧ j.bytes * c ≤ 281474976710656 ∧ c < 9223372036854775807 ∧ j.zero.okc = true ∧ j.zero.cells.length = j.size ∧ 0 < j.size then
     some (.os true j.size σ.length 0 0 l.toNat (decide (l = c)), σ ++ [.cells 0 (zeroRun j.zero.cells (l.toNat * j.size))])
    else none
   | none => none
  | _ => none
 | _, _, _ => none
theorem wrap64_in {x : Int} (h : -9223372036854775808 ≤ x) (h' : x < 9223372036854775808) : IntKind.i64.wrap x = x := by
 rw [IntKind.wrap_i64]; omega
theorem SR.short {E : Env} {σ : Store} (hS : SR E σ) {id ver : Nat} {cs : List AV} (h : Store.at σ id ver = some cs) (n : Nat) : SR E (σ.set id (.cells ver (cs.take n))) := by
 refine ⟨by simpa using hS.len, fun id' => ?_, hS.inj, hS.blk, hS.stb, hS.glb⟩
 by_cases hid : id' = id
 · subst hid
   rw [List.getElem?_set_self (Store.at_lt h)]
   rcases hS.at h with ⟨b, h1, h2⟩ | ⟨h1, h2⟩
   · obtain ⟨conc, t, fr, a1, a2, a3, a4⟩ := h2.blk
     refine .inl ⟨b, h1, conc, t, fr, a1, a2, by simp; omega, fun i hi => ?_⟩
     have hi' : i < n ∧ i < cs.length := by simp at hi; omega
     rw [gc_take _ _ _ hi'.1]; exact a4 i hi'.2
   · exact .inr ⟨by rw [h1]; simp, h2⟩
 · rw [List.getElem?_set_ne (fun e => hid e.symm)]; exact hS.obj id'
theorem zeroRun_take (zc : List AV) (m n : Nat) (h : n ≤ m) : (zeroRun zc m).take n = zeroRun zc n := by
 unfold zeroRun
 rw [← List.map_take, List.take_range, Nat.min_eq_left h]
theorem Store.at_new (σ : Store) (ver : Nat) (cs : List AV) : Store.at (σ ++ [.cells ver cs]) σ.length ver = some cs := by
 simp [Store.at]
theorem set_new (σ : Store) (x y : AObj) : (σ ++ [x]).set σ.length y = σ ++ [y] := by
 simp
theorem run_evMake {P : Program} {T : TT} (hT : TOK P T) {E : Env} {σ σ' : Store} (hS : SR E σ) {t : TypeId} {len cap : AV} {vl vc : Value} (hl : VR E len vl) (hc : VR E cap vc) {r : AV}
 (h : evMake T t len cap σ = some (r, σ')) : Out P E (Instr.makeSlice t vl vc) r σ' := by
 unfold evMake at h
 split at h
 · rename_i i k1 l k2 c hi
   cases hl; cases hc
   split at h
   · rename_i e hd
     split at h
     · rename_i j hj
       split at h
       · rename_i hcnd
         obtain ⟨c1, c2, c3, c4, c5, c6, c7⟩ := hcnd
         cases h
         obtain ⟨f, hf, hfb, hfs⟩ := run_bytes E.w (hT _ _ hj)
         obtain ⟨z, hz, hzs, hzv⟩ := run_zero (w := E.w) (hT _ _ hj)
         have wl : IntKind.i64.wrap l = l := wrap64_in (by omega) (by omega)
         have wc : IntKind.i64.wrap c = c := wrap64_in (by omega) (by omega)
         have ht := told_zero (E := E) (hzv E) c5 (by omega) (c.toNat * j.size)
         obtain ⟨E', h1, h2, h3, h4, h5, h6⟩ := run_newRow_told (P := P) hS ht e
         have hle : l.toNat * j.size ≤ c.toNat * j.size := Nat.mul_le_mul_right _ (by omega)
         have h2' := h2.short (Store.at_new σ 0 _) (l.toNat * j.size)
         rw [set_new, zeroRun_take _ _ _ hle] at h2'
         refine ⟨.slice (some ⟨E.w.heap.size, 0, none⟩) l.toNat c.toNat, E', ?_, ?_, h2', h3⟩
         · have hbig : ¬ ((f.bytes : Int) * c > 2 ^ 48) := by rw [hfb]; omega
           have htl : (decide (c < 0) || decide ((f.bytes : Int) * c > 2 ^ 48) || decide (l < 0) || decide (l > c)) = false := by
            simp only [Bool.or_eq_false_iff, decide_eq_false_iff_not]
            exact ⟨⟨⟨by omega, hbig⟩, by omega⟩, by omega⟩
           simp only [Instr.makeSlice, Sem.run_bind, zq _ (hT _ _ hi), Result.andThen_ok, hd, asInt, asIntOf, Sem.run_pure, hf, wl, wc]
           rw [if_neg (by rw [htl]; simp)]
           simp only [Sem.run_bind, Result.andThen_ok, run_askRoom, run_size _ (hT _ _ hj)]
           by_cases hn : c.toNat * j.size = 0
           · simp only [hn, if_true, Sem.run_bind, Sem.run_pure, Result.andThen_ok]
             rw [hn] at h1
             rw [map_none (#[] : Array Value) z.cells, h1]; rfl
           · simp only [hn, if_false, Sem.run_bind, hz, Result.andThen_ok, Sem.run_pure]
             rw [h1]; rfl
         · refine .os _ _ _ _ _ _ _ _ _ h4 (by omega) (fun e => by simp at e; omega) (by omega) fun ob hob => ?_
           rw [h5] at hob
           cases hob
           exact ⟨_, rfl, .inr rfl, e, _, h6, (hT _ _ hj).ts, by simp⟩
       · cases h
     · cases h
   · cases h
 · cases h
def fillRun (place : Nat → Option (Nat × Nat)) : List AV → List (Nat × AV) → Option (List AV)
 | cs, [] => some cs
 | cs, (i, x) :: rest =>
  match place i with
  | some (off, size) => if x.okc = true ∧ x.cells.length = size ∧ off + size ≤ cs.length then fillRun place (setRun cs off x.cells) rest else none
  | none => none
theorem told_set {E : Env} {vs : Array Value} {cs : List AV} (h : Told E vs cs) {o : Nat} (ho : o < cs.length) {x : AV} {v : Value} (hv : VR E x v) : Told E (vs.setIfInBounds o v) (cs.set o x) := by
 refine ⟨by simp [h.1], fun i hi => ?_⟩
 simp only [List.length_set] at hi
 rw [gc_set _ _ _ _ ho]
 by_cases hio : i = o
 · subst hio
   have : (vs.setIfInBounds i v).getD i undef = v := by have := h.1; simp [show i < vs.size by omega]
   rw [if_pos rfl, this]; exact hv
 · have : (vs.setIfInBounds o v).getD i undef = vs.getD i undef := by simp [Array.getElem?_setIfInBounds_ne (show o ≠ i from fun e => hio e.symm)]
   rw [if_neg hio, this]; exact h.2 i hi
theorem told_run {E : Env} (xs : List AV) : ∀ {vs : Array Value} {cs : List AV} (_ : Told E vs cs) (o : Nat) (ws : List Value) (_ : ws.length = xs.length) (_ : o + xs.length ≤ cs.length)
 (_ : ∀ i, i < xs.length → VR E (gc xs i) (ws.getD i undef)) (n : Nat), Told E ((ws.zipIdx n).foldl (fun cs (c, j) => cs.setIfInBounds (o - n + j) c) vs) (setRun cs o xs) ∨ o < n := by
 induction xs with
 | nil =>
  intro vs cs h o ws hw hl hv n
  have : ws = [] := List.length_eq_zero_iff.1 hw
  subst this
  exact .inl h
 | cons x xs ih =>
  intro vs cs h o ws hw hl hv n
  by_cases hn : o < n
  · exact .inr hn
  · cases ws with
    | nil => simp at hw
    | cons v ws =>
     simp only [List.length_cons] at hl hw
     have hv0 : VR E x v := by have := hv 0 (by simp); simpa [gc] using this
     have h1 := told_set h (show o < cs.length by omega) hv0
     have h2 := ih h1 (o + 1) ws (by omega) (by simp; omega) (fun i hi => by
      have := hv (i + 1) (by simp; omega)
      have e1 : gc (x :: xs) (i + 1) = gc xs i := by simp [gc]
      have e2 : (v :: ws).getD (i + 1) undef = ws.getD i undef := by simp
      rw [e1, e2] at this; exact this) (n + 1)
     refine .inl ?_
     rw [setRun]
     rcases h2 with h2 | h2
     · simp only [List.zipIdx_cons, List.foldl_cons]
       have e : o + 1 - (n + 1) = o - n := by omega
       rw [e] at h2
       have e' : o - n + n = o := by omega
       rw [e']; exact h2
     · omega
theorem told_run0 {E : Env} {xs : List AV} {vs : Array Value} {cs : List AV} (h : Told E vs cs) (o : Nat) (ws : Array Value) (hw : ws.size = xs.length) (hl : o + xs.length ≤ cs.length)
 (hv : ∀ i, i < xs.length → VR E (gc xs i) (ws.getD i undef)) : Told E (ws.zipIdx.foldl (fun cs (c, j) => cs.setIfInBounds (o + j) c) vs) (setRun cs o xs) := by
 have := told_run xs h o ws.toList (by simpa using hw) hl (fun i hi => by have := hv i hi; simpa using this) 0
 rcases this with h1 | h1
 · have e : ws.zipIdx.foldl (fun cs (c, j) => cs.setIfInBounds (o + j) c) vs = (ws.toList.zipIdx 0).foldl (fun cs (c, j) => cs.setIfInBounds (o + j) c) vs := by
    rw [← Array.foldl_toList]; simp
   rw [e]; simpa using h1
 · omega
theorem told_fill {E : Env} {place : Nat → Option (Nat × Nat)} (parts : List (Nat × AV)) : ∀ {vs : Array Value} {cs cs' : List AV} (_ : Told E vs cs) (ps : List (Nat × Value))
 (_ : ps.length = parts.length) (_ : ∀ i (h : i < parts.length) (h' : i < ps.length), ps[i].1 = parts[i].1 ∧ VR E parts[i].2 ps[i].2) (_ : fillRun place cs parts = some cs'),
 ∃ vs', Instr.fill place vs ps = some vs' ∧ Told E vs' cs' := by
 induction parts with
 | nil =>
  intro vs cs cs' h ps hps hv hf
  have : ps = [] := List.length_eq_zero_iff.1 hps
  subst this
  cases hf
  exact ⟨vs, rfl, h⟩
 | cons p parts ih =>
  intro vs cs cs' h ps hps hv hf
  cases ps with
  | nil => simp at hps
  | cons q ps =>
   obtain ⟨i, x⟩ := p
   obtain ⟨i', v⟩ := q
   have h0 := hv 0 (by simp) (by simp)
   simp only [List.getElem_cons_zero] at h0
   obtain ⟨e, hx⟩ := h0
   subst e
   simp only [fillRun] at hf
   split at hf
   · rename_i off size hpl
     split at hf
     · rename_i hc
       obtain ⟨hxs, hxv⟩ := hx.cellsOf hc.1
       have hsz : v.cells.size = size := by omega
       have h1 := told_run0 h off v.cells hxs (by omega) hxv
       obtain ⟨vs', h2, h3⟩ := ih h1 ps (by simpa using hps) (fun i h h' => by
        have := hv (i + 1) (by simp; omega) (by simp; omega)
        simpa using this) hf
       refine ⟨vs', ?_, h3⟩
       simp only [Instr.fill, hpl]
       rw [if_neg (by
        have := h.1
        simp only [Bool.or_eq_true, decide_eq_true_eq, ne_eq, not_or, Decidable.not_not]
        omega)]
       exact h2
     · cases hf
   · cases hf
def PartsR (E : Env) (parts : List (Nat × AV)) (ps : List (Nat × Value)) : Prop :=
 ps.length = parts.length ∧ ∀ i (h : i < parts.length) (h' : i < ps.length), ps[i].1 = parts[i].1 ∧ VR E parts[i].2 ps[i].2
def evBuildSlice (T : TT) (t : TypeId) (len : Nat) (parts : List (Nat × AV)) (σ : Store) : Option (AV × Store) :=
 match T t with
 | some i => match i.desc with
  | .slice e => match T e with
   | some j =>
    if len * j.size ≤ 16777216 ∧ j.zero.okc = true ∧ j.zero.cells.length = j.size ∧ 0 < j.size then
     match fillRun (fun i => some (i * j.size, j.size)) (zeroRun j.zero.cells (len * j.size)) parts with
     | some cs => some (.os true j.size σ.length 0 0 len true, σ ++ [.cells 0 cs])
     | none => none
    else none
   | none => none
  | _ => none
 | none => none
theorem run_evBuildSlice {P : Program} {T : TT} (hT : TOK P T) {E : Env} {σ σ' : Store} (hS : SR E σ) {t : TypeId} {len : Nat} {parts : List (Nat × AV)} {ps : Array (Nat × Value)} (hp : PartsR E parts ps.toList) {r : AV}
 (h : evBuildSlice T t len parts σ = some (r, σ')) : Out P E (Instr.buildSlice t len ps) r σ' := by
 unfold evBuildSlice at h
 split at h
 · rename_i i hi
   split at h
   · rename_i e hd
     split at h
     · rename_i j hj
       split at h
       · rename_i hc
         obtain ⟨c1, c2, c3, c4⟩ := hc
         split at h
         · rename_i cs hcs
           cases h
           obtain ⟨z, hz, hzs, hzv⟩ := run_zero (w := E.w) (hT _ _ hj)
           have ht := told_zero (E := E) (hzv E) c2 (by omega) (len * j.size)
           obtain ⟨vs', hf, ht'⟩ := told_fill parts ht ps.toList hp.1 hp.2 hcs
           obtain ⟨E', h1, h2, h3, h4, h5, h6⟩ := run_newRow_told (P := P) hS ht' e
           have hlen : cs.length = len * j.size := by
            have : ∀ (parts : List (Nat × AV)) (cs cs' : List AV), fillRun (fun i => some (i * j.size, j.size)) cs parts = some cs' → cs'.length = cs.length := by
             intro parts
             induction parts with
             | nil => intro cs cs' h; cases h; rfl
             | cons p parts ih =>
              intro cs cs' h
              obtain ⟨i, x⟩ := p
              simp only [fillRun] at h
              split at h
              · rw [ih _ _ h, length_setRun]
              · cases h
            rw [this _ _ _ hcs]; simp [zeroRun]
           refine ⟨.slice (some ⟨E.w.heap.size, 0, none⟩) len len, E', ?_, ?_, h2, h3⟩
           · simp only [Instr.buildSlice, Sem.run_bind, zq _ (hT _ _ hi), Result.andThen_ok, hd, run_size _ (hT _ _ hj)]
             rw [if_neg (by omega)]
             by_cases hn : len * j.size = 0
             · simp only [hn, if_true, Sem.run_bind, Sem.run_pure, Result.andThen_ok]
               rw [hn] at hf
               rw [map_none (#[] : Array Value) z.cells, hf]
               simp only [Sem.run_bind]
               rw [h1]; rfl
             · simp only [hn, if_false, Sem.run_bind, hz, Result.andThen_ok, Sem.run_pure]
               rw [hf]
               simp only [Sem.run_bind]
               rw [h1]; rfl
           · refine .os _ _ _ _ _ _ _ _ _ h4 (Nat.le_refl _) (fun _ => rfl) (by have := Nat.le_mul_of_pos_right len c4; omega) fun ob hob => ?_
             rw [h5] at hob
             cases hob
             exact ⟨_, rfl, .inr rfl, e, _, h6, (hT _ _ hj).ts, by rw [ht'.1, hlen]; simp⟩
         · cases h
       · cases h
     · cases h
   · cases h
 · cases h
def placeOf (T : TT) (fields : Array Go.Field) (k : Nat) : Option (Nat × Nat) :=
 match fields[k]? with
 | some f => match T f.type with
  | some j => some (f.offset, j.size)
  | none => none
 | none => none
def evBuild (T : TT) (t : TypeId) (parts : List (Nat × AV)) : Option AV :=
 match T t with
 | some i => if i.zero.okc = true then
  match i.desc with
  | .struct fields => if fields.toList.all (fun f => (T f.type).isSome) then (fillRun (placeOf T fields) i.zero.cells parts).map AV.agg else none
  | .array _ e => match T e with
   | some j => (fillRun (fun k => some (k * j.size, j.size)) i.zero.cells parts).map AV.agg
   | none => none
  | _ => none
  else none
 | none => none
theorem run_places {P : Program} {T : TT} (hT : TOK P T) (w : World) : ∀ (fs : List Go.Field), fs.all (fun f => (T f.type).isSome) = true →
 ∃ ps : List (Nat × Nat), (fs.mapM fun (f : Go.Field) => (do pure (f.offset, ← sizeOf f.type) : Sem (Nat × Nat))).run P w = .ok ps w ∧ ∀ k, ps[k]? = placeOf T fs.toArray k := by
 intro fs
 induction fs with
 | nil => intro _; exact ⟨[], by simp, fun k => by simp [placeOf]⟩
 | cons f fs ih =>
  intro h
  simp only [List.all_cons, Bool.and_eq_true] at h
  obtain ⟨ps, h1, h2⟩ := ih h.2
  obtain ⟨j, hj⟩ := Option.isSome_iff_exists.1 h.1
  refine ⟨(f.offset, j.size) :: ps, ?_, fun k => ?_⟩
  · rw [List.mapM_cons]
    simp only [Sem.run_bind, run_size _ (hT _ _ hj), Result.andThen_ok, Sem.run_pure, h1]
  · cases k with
    | zero => simp [placeOf, hj]
    | succ k => simpa [placeOf] using h2 k
theorem run_evBuild {P : Program} {T : TT} (hT : TOK P T) {E : Env} {σ : Store} (hS : SR E σ) {t : TypeId} {parts : List (Nat × AV)} {ps : Array (Nat × Value)} (hp : PartsR E parts ps.toList) {r : AV}
 (h : evBuild T t parts = some r) : Out P E (Instr.build t ps) r σ := by
 unfold evBuild at h
 split at h
 · rename_i i hi
   split at h
   · rename_i ho
     obtain ⟨z, hz, hzs, hzv⟩ := run_zero (w := E.w) (hT _ _ hi)
     have ht : Told E z.cells i.zero.cells := (hzv E).cellsOf ho
     split at h
     · rename_i fields hd
       split at h
       · rename_i hall
         obtain ⟨pl, h1, h2⟩ := run_places hT E.w fields.toList hall
         cases hf : fillRun (placeOf T fields) i.zero.cells parts with
         | none => rw [hf] at h; cases h
         | some cs =>
          rw [hf] at h; cases h
          obtain ⟨vs', hv, ht'⟩ := told_fill parts ht ps.toList hp.1 hp.2 hf
          refine .same hS (cv := .agg vs') ?_ (.agg _ _ ht'.1 ht'.2)
          have hm : (fields.mapM fun (f : Go.Field) => (do pure (f.offset, ← sizeOf f.type) : Sem (Nat × Nat))).run P E.w = .ok pl.toArray E.w := by
           rw [Array.mapM_eq_mapM_toList]
           simp only [Sem.run_map, h1, Result.andThen_ok]
          have hpl : (pl.toArray[·]?) = placeOf T fields := by funext k; simpa using h2 k
          simp only [Instr.build, Sem.run_bind, hz, Result.andThen_ok, zq _ (hT _ _ hi), hd]
          rw [hm]
          simp only [Result.andThen_ok]
          rw [hpl, hv]; rfl
       · cases h
     · rename_i n e hd
       split at h
       · rename_i j hj
         cases hf : fillRun (fun k => some (k * j.size, j.size)) i.zero.cells parts with
         | none => rw [hf] at h; cases h
         | some cs =>
          rw [hf] at h; cases h
          obtain ⟨vs', hv, ht'⟩ := told_fill parts ht ps.toList hp.1 hp.2 hf
          refine .same hS (cv := .agg vs') ?_ (.agg _ _ ht'.1 ht'.2)
          simp only [Instr.build, Sem.run_bind, hz, Result.andThen_ok, zq _ (hT _ _ hi), hd, run_size _ (hT _ _ hj)]
          rw [hv]; rfl
       · cases h
     · cases h
   · cases h
 · cases h
end AM
end Go.Proofs.YtaddlmlpeghonaaDoor
